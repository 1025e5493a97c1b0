import Derived.Test.YtbookhehpebcmaaGreatDoorM1
namespace Go.Proofs.YtbookhehpebcmaaGreatDoor
open AM
set_option linter.unusedSimpArgs false
set_option linter.unusedVariables false

theorem is_spec_l2Full : FnIs Tryz.prog 42 6 [.tmp 2] (Tryz.f42.body.getD .skip) := ⟨⟨Tryz.f42, by kernel_rfl, by kernel_rfl, by kernel_rfl, by kernel_rfl⟩, by kernel_rfl, by kernel_rfl⟩
def G_spec_l2Full : Gm := Gm.none
theorem G_spec_l2Full_ok : G_spec_l2Full.ok Tryz.prog := Gm.none_ok
theorem gm_spec_l2Full {r : List Oper} {n : Nat} : splB G_spec_l2Full r n = true := rfl
set_option maxHeartbeats 1000000 in
set_option maxRecDepth 100000 in
theorem runs_spec_l2Full (n : Int) (hp1 : 0 ≤ n ∧ n ≤ 10) : ARuns Tryz.prog 42 [.int .i64 n] [] (.int .i64 (fullI n)) [] := by
  refine ARuns_bc G_spec_l2Full_ok is_spec_l2Full (by simp) fun hl hlB => ?_
  simp only [kcode_at, kreg_at, bc_seq, bc_ret, bc_region, afin_nil, cvE_some, resL, resV, cv, pack, entryE, inPrm, entryB, Option.getD_some, aops_nil, aops_plain, kont_at, aop_move, aop_assign, aop_binOp, evalE, getE, putE, getB, St.put, setsB, AV.ofV, List.length_nil, Nat.reduceEqDiff, ↓reduceIte, true_and, List.nil_append, List.cons_append, aInt_sub, aBin_sub, aBin_shl, aShift_shl, aBinW_f, isW_tmp, isW_sub, un3, inR64, Tryz.f42]
  have h := full_bd hp1
  have e : 1 * 2 ^ n.toNat - 1 = fullI n := by unfold fullI; omega
  have e2 : (1 : Int) * 2 ^ n.toNat = fullI n + 1 := by omega
  simp only [IntKind.bits]
  rw [e, e2]
  (repeat' (first | apply And.intro | intro _)) <;> try (first | omega | trivial)
def lend_spec_l2Full : List Nat := []
def sp_spec_l2Full : List AV → List Bx → (AV → List Bx → Prop) → Prop
  | [.int .i64 n], [], K => (0 ≤ n ∧ n ≤ 10) ∧ K (.int .i64 (fullI n)) []
  | _, _, _ => False
theorem at_spec_l2Full {n : Int} {K : AV → List Bx → Prop} : sp_spec_l2Full [.int .i64 n] [] K = ((0 ≤ n ∧ n ≤ 10) ∧ K (.int .i64 (fullI n)) []) := id rfl
theorem ok_spec_l2Full : ∀ args giv K, sp_spec_l2Full args giv K → ∃ r outs, ARuns Tryz.prog 42 args giv r outs ∧ K r outs := by
  intro args giv K hk
  unfold sp_spec_l2Full at hk
  split at hk
  · obtain ⟨hp1, hk⟩ := hk; exact ⟨_, _, runs_spec_l2Full _ hp1, hk⟩
  · exact hk.elim
theorem is_spec_IsFamily : FnIs Tryz.prog 9 43 [.tmp 2] (Tryz.f9.body.getD .skip) := ⟨⟨Tryz.f9, by kernel_rfl, by kernel_rfl, by kernel_rfl, by kernel_rfl⟩, by kernel_rfl, by kernel_rfl⟩
def G_spec_IsFamily : Gm := ((Gm.none.add 41 lend_spec_l1In sp_spec_l1In).add 42 lend_spec_l2Full sp_spec_l2Full)
theorem G_spec_IsFamily_ok : G_spec_IsFamily.ok Tryz.prog := (Gm.add_ok (Gm.add_ok Gm.none_ok ok_spec_l1In) ok_spec_l2Full)
theorem gm_spec_IsFamily {r : List Oper} {n : Nat} : splB G_spec_IsFamily r n = true := rfl
theorem gs_spec_IsFamily_41 : G_spec_IsFamily.sp 41 = sp_spec_l1In ∧ G_spec_IsFamily.lend 41 = lend_spec_l1In := ⟨rfl, rfl⟩
theorem gs_spec_IsFamily_42 : G_spec_IsFamily.sp 42 = sp_spec_l2Full ∧ G_spec_IsFamily.lend 42 = lend_spec_l2Full := ⟨rfl, rfl⟩
set_option maxHeartbeats 1000000 in
set_option maxRecDepth 100000 in
theorem runs_spec_IsFamily (n : Int) (xs : List Int) : ARuns Tryz.prog 9 [.agg [.int .i64 n, .sl none (.ints .i64 xs)]] [] (.bool (famB n xs)) [] := by
  refine ARuns_bc G_spec_IsFamily_ok is_spec_IsFamily (by simp) fun hl hlB => ?_
  simp only [kcode_at, kreg_at, bc_skip, bc_seq, bc_cond, bc_block, bc_ret, bc_region, acond_tmp, aCase_b, afin_nil, cvE_some, resL, resV, cv, pack, entryE, inPrm, entryB, Option.getD_some, acall_clo, kcall_nil, selOf, inArgs, inA, inL, okA, outA, outU, deep, deepL, List.map_nil, List.map_cons, List.all_nil, List.all_cons, BEq.rfl, Bool.and_true, List.append_nil, aops_nil, aops_plain, kont_at, aop_assign, aop_box, aop_load, aop_unOp, aop_fieldAddr, SC0, aop_call, evalE, getE, putE, getB, setB, St.put, setsB, AV.ofV, AV.blk, SC.len, List.length_nil, List.length_cons, Nat.reduceEqDiff, Nat.reduceAdd, ↓reduceIte, true_and, and_true, Bool.not_eq_true', Bool.not_eq_false', List.nil_append, List.cons_append, aBox_some, aUn_b, aField_ptr, aLoad_1b, lend, AV.cells, List.getD_cons_zero, Nat.reduceLT, Nat.zero_add, BEq.rfl, sl3, ty3, ty26, gs_spec_IsFamily_41, at_spec_l1In, lend_spec_l1In, Tryz.f9]
  simp only [lensA, lenA, lenSC] at hl
  refine ⟨fun h => by rw [famB, setsOk, h]; rfl, fun hn => ?_⟩
  have hb := hn
  rw [inB_t] at hb
  refine bc_loop (fun i : Nat => i ≤ xs.length ∧ (∀ k, k < i → inS n (xs.getD k 0) = true) ∧ ∀ k, k < i → ascAt xs k = true)
    (fun i => ⟨[(1, .ptr 0 0), (3, .int .i64 i)], [.box [.int .i64 n, .sl none (.ints .i64 xs)]]⟩) (fun i => xs.length - i)
    [1, 3] [0] 0 rfl (by simp [St.conv, St.bf, getE, putE, getB, cv, cvL, cvB, idx, still, pack, lifts, liftOne, liftC, liftK, killB, cellsOfB, setB]) (by simp) fun i ⟨h1, h2, h3⟩ => ?_
  simp only [kcode_at, kreg_at, bc_skip, bc_seq, bc_cond, bc_block, bc_exit, bc_ret, bc_region, lkX_cons, acond_tmp, aCase_t, aCase_f, aCase_b, afin_nil, cvE_some, resL, resV, cv, pack, acall_clo, kcall_nil, selOf, inArgs, inA, inL, okA, outA, outU, deep, deepL, List.map_nil, List.map_cons, List.all_nil, List.all_cons, BEq.rfl, Bool.and_true, List.append_nil, aops_nil, aops_plain, kont_at, aop_move, aop_assign, aop_pick, aop_load, aop_binOp, aop_unOp, aop_fieldAddr, aop_indexAddr, aop_len, SC0, aop_call, evalE, getE, putE, getB, St.put, setsB, nth, AV.ofV, AV.blk, SC.len, SC.get, List.length_nil, List.length_cons, Nat.reduceEqDiff, Nat.reduceAdd, ↓reduceIte, true_and, and_true, decide_eq_true_eq, decide_eq_false_iff_not, Option.isSome, List.nil_append, List.cons_append, aPick_t, aPick_f, aInt_add, aBin_add, aInt_sub, aBin_sub, aInt_lss, aBin_lss, aInt_leq, aBin_leq, aInt_gtr, aBin_gtr, aUn_t, aUn_f, aField_ptr, aIdx_sl, aLen_sl, aLoad_1b, aLoad_ep, aBinW_f, isW_tmp, isW_addc, isW_sub, isW_gtr, Int.reduceLT, aBinW_dF, bc_draw, kregD_at, aopsD_nil, aopsD_plain, aopsD_guard, kontD_at, splW_t, contD_at, yesD_at, noD_at, splD_bool, splD_int, splD_tt, splD_ff, splD_sl, splD_ptr, splD_ep, gD_tt, gD_tf, gD_ft, gD_ff, gD_ts, slotO_some, addTr_nil, addTr_cons, regC_none, regR_nil, regR_cons, lend, List.getD_cons_zero, List.getD_cons_succ, Nat.reduceLT, Nat.zero_add, BEq.rfl, sl3, ty3, un3, sl24, ty24, un24, ty26, inR64, gm_spec_IsFamily, gs_spec_IsFamily_41, at_spec_l1In, lend_spec_l1In, gs_spec_IsFamily_42, at_spec_l2Full, lend_spec_l2Full, Int.toNat_natCast]
  have e0 : ((i : Int) - 1).toNat = i - 1 := by omega
  rw [e0]
  have no1 : i < xs.length → inS n (xs.getD i 0) = false → famB n xs = false := fun hi hf => by rw [famB, setsOk, allN_f i hi hf]; simp
  have no2 : i < xs.length → ¬ ascAt xs i = true → famB n xs = false := fun hi hf => by rw [famB, allN_f i hi (by simpa using hf)]; simp
  have nx : i < xs.length → inS n (xs.getD i 0) = true → ascAt xs i = true → i + 1 ≤ xs.length ∧ (∀ k, k < i + 1 → inS n (xs.getD k 0) = true) ∧ ∀ k, k < i + 1 → ascAt xs k = true := fun a b c => ⟨by omega, upto_succ h2 b, upto_succ h3 c⟩
  refine ⟨fun hi => ⟨by omega, by omega, fun hs => ⟨fun h0 => ⟨by omega, by omega, by omega, fun hle => ?_, fun hle => ⟨by omega, ?_⟩⟩, fun h0 => ⟨by omega, ?_⟩⟩, fun hs => ?_⟩, fun hi => ?_⟩
  · rw [no2 (by omega) (by rw [ascAt_iff]; omega)]
  · exact klp_of (i + 1) (by simp [St.conv, St.bf, getE, putE, getB, cv, cvL, cvB, idx, still, pack, lifts, liftOne, liftC, liftK, killB, cellsOfB, setB]) (nx (by omega) hs (by rw [ascAt_iff]; omega)) (by omega)
  · exact klp_of (i + 1) (by simp [St.conv, St.bf, getE, putE, getB, cv, cvL, cvB, idx, still, pack, lifts, liftOne, liftC, liftK, killB, cellsOfB, setB]) (nx (by omega) hs (by rw [ascAt_iff]; omega)) (by omega)
  · rw [no1 (by omega) hs]
  · have : i = xs.length := by omega
    subst this
    rw [famB, setsOk, hn, allN_t h2, allN_t h3]; rfl
def lend_spec_IsFamily : List Nat := []
def sp_spec_IsFamily : List AV → List Bx → (AV → List Bx → Prop) → Prop
  | [.agg [.int .i64 n, .sl none (.ints .i64 xs)]], [], K => K (.bool (famB n xs)) []
  | _, _, _ => False
theorem at_spec_IsFamily {n : Int} {xs : List Int} {K : AV → List Bx → Prop} : sp_spec_IsFamily [.agg [.int .i64 n, .sl none (.ints .i64 xs)]] [] K = (K (.bool (famB n xs)) []) := id rfl
theorem ok_spec_IsFamily : ∀ args giv K, sp_spec_IsFamily args giv K → ∃ r outs, ARuns Tryz.prog 9 args giv r outs ∧ K r outs := by
  intro args giv K hk
  unfold sp_spec_IsFamily at hk
  split at hk
  · exact ⟨_, _, runs_spec_IsFamily _ _ , hk⟩
  · exact hk.elim
theorem is_spec_l2List : FnIs Tryz.prog 54 22 [.tmp 2] (Tryz.f54.body.getD .skip) := ⟨⟨Tryz.f54, by kernel_rfl, by kernel_rfl, by kernel_rfl, by kernel_rfl⟩, by kernel_rfl, by kernel_rfl⟩
def G_spec_l2List : Gm := Gm.none
theorem G_spec_l2List_ok : G_spec_l2List.ok Tryz.prog := Gm.none_ok
theorem gm_spec_l2List {r : List Oper} {n : Nat} : splB G_spec_l2List r n = true := rfl
set_option maxHeartbeats 1000000 in
set_option maxRecDepth 100000 in
theorem runs_spec_l2List (s : Int) (hp1 : 0 ≤ s ∧ s < 2 ^ 62) : ARuns Tryz.prog 54 [.int .i64 s] [] (.ref 0 (elemsL s).length) [.row 3 (.ints .i64 (elemsL s))] := by
  refine ARuns_bc G_spec_l2List_ok is_spec_l2List (by simp) fun hl hlB => ?_
  simp only [kcode_at, kreg_at, bc_seq, bc_block, bc_region, entryE, inPrm, entryB, Option.getD_some, AV.bid, List.map_nil, aops_nil, aops_plain, kont_at, aop_move, aop_assign, aop_buildSlice, evalE, getE, putE, getB, setB, St.put, setsB, AV.ofV, AV.bid, List.length_nil, List.length_cons, Nat.reduceEqDiff, ↓reduceIte, true_and, and_true, List.nil_append, List.cons_append, aBuildL_some, aBuildS_some, rng0, still, dies, snocs, Nat.reduceLeDiff, List.flatMap_nil, Nat.zero_add, sl24, Tryz.f54]
  obtain ⟨S, rfl⟩ := Int.eq_ofNat_of_zero_le hp1.1
  refine bc_loop (fun i : Nat => i ≤ 62)
    (fun i => ⟨[(3, .ref 0 (elemsF S i).length), (4, .int .i64 i), (5, .int .i64 ((S / 2 ^ i : Nat) : Int))], [.row 3 (.ints .i64 (elemsF S i))]⟩) (fun i => S / 2 ^ i)
    [3, 4, 5] [0] 0 rfl (by simp [elemsF, St.conv, St.bf, getE, putE, getB, cv, cvL, cvB, idx, still]) (by omega) fun i h1 => ?_
  simp only [kcode_at, kreg_at, bc_skip, bc_seq, bc_cond, bc_block, bc_exit, bc_ret, bc_region, lkX_cons, acond_tmp, aCase_b, AV.bid, List.map_nil, List.map_cons, List.append_nil, aops_nil, aops_plain, kont_at, aop_move, aop_assign, aop_buildSlice, aop_binOp, slTy2, aop_append, evalE, getE, putE, getB, setB, St.put, setsB, AV.ofV, AV.blk, AV.bid, SC.len, List.length_nil, List.length_cons, Nat.reduceEqDiff, Nat.reduceAdd, ↓reduceIte, true_and, and_true, decide_eq_true_eq, decide_eq_false_iff_not, List.nil_append, List.cons_append, aInt_add, aBin_add, aInt_and, aBin_and, aInt_eql, aBin_eql, aInt_gtr, aBin_gtr, aBin_shr, aShift_shr, aBuildL_some, aBuildS_some, aApp_some, aAppend_ref, aBinW_f, isW_addc, isW_and, isW_shr, isW_eql, isW_gtr, Int.reduceLT, aBinW_dF, Int.toNat_one, rng1, cont, still, dies, snocs, SC.snoc, SC.app, Nat.reduceLeDiff, List.flatMap_nil, List.flatMap_cons, Nat.zero_add, un3, sl24, inR64]
  have hq : S / 2 ^ i ≤ S := Nat.div_le_self _ _
  have hl2 := elemsF_len (s := S) (n := i)
  have hd := div_next (s := S) (i := i)
  have ht := elemsF_t (s := S) (n := i)
  have hf := elemsF_f (s := S) (n := i)
  have hlt := elems_lt (s := S) (i := i)
  have hat : S / 2 ^ i = 0 → elemsL S = elemsF S i := fun h => by
    have := elems_at (s := S) (i := i) h h1
    simpa using this
  generalize hqe : S / 2 ^ i = q at *
  have e6 : (q : Int) / 2 = (S : Int) / 2 ^ (i + 1) := by
    have := congrArg (fun n : Nat => (n : Int)) hd
    simpa using this.symm
  have hb : band .i64 (q : Int) 1 = (q : Int) % 2 := band_one (by omega)
  have e5 : (q : Int) / 2 ^ 1 = ((q / 2 : Nat) : Int) := by omega
  rw [hb, e5]
  simp only [IntKind.bits]
  refine ⟨fun h0 => ⟨fun h1 => ?_, fun h1 => ?_⟩, fun h0 => ?_⟩
  · have hi := hlt (by omega) (by omega)
    refine ⟨by omega, by omega, by omega, klp_of (i + 1) ?_ (by omega) (by simp only [hqe, hd]; omega)⟩
    rw [ht (by omega)]
    simp [St.conv, St.bf, getE, putE, getB, cv, cvL, cvB, idx, still, pack, lifts, liftOne, liftC, liftK, killB, cellsOfB, setB]
    try omega
  · have hi := hlt (by omega) (by omega)
    refine ⟨by omega, by omega, klp_of (i + 1) ?_ (by omega) (by simp only [hqe, hd]; omega)⟩
    rw [hf (by omega)]
    simp [St.conv, St.bf, getE, putE, getB, cv, cvL, cvB, idx, still, pack, lifts, liftOne, liftC, liftK, killB, cellsOfB, setB]
    try omega
  · rw [hat (by omega)]
    exact afin_of [0] rfl rfl (by simp [St.conv, St.bf, getE, putE, getB, cv, cvL, cvB, idx, still, pack, lifts, liftOne, liftC, liftK, killB, cellsOfB, setB]) (by simp [St.conv, St.bf, getE, putE, getB, cv, cvL, cvB, idx, still, pack, lifts, liftOne, liftC, liftK, killB, cellsOfB, setB])
def lend_spec_l2List : List Nat := []
def sp_spec_l2List : List AV → List Bx → (AV → List Bx → Prop) → Prop
  | [.int .i64 s], [], K => (0 ≤ s ∧ s < 2 ^ 62) ∧ K (.ref 0 (elemsL s).length) [.row 3 (.ints .i64 (elemsL s))]
  | _, _, _ => False
theorem at_spec_l2List {s : Int} {K : AV → List Bx → Prop} : sp_spec_l2List [.int .i64 s] [] K = ((0 ≤ s ∧ s < 2 ^ 62) ∧ K (.ref 0 (elemsL s).length) [.row 3 (.ints .i64 (elemsL s))]) := id rfl
theorem ok_spec_l2List : ∀ args giv K, sp_spec_l2List args giv K → ∃ r outs, ARuns Tryz.prog 54 args giv r outs ∧ K r outs := by
  intro args giv K hk
  unfold sp_spec_l2List at hk
  split at hk
  · obtain ⟨hp1, hk⟩ := hk; exact ⟨_, _, runs_spec_l2List _ hp1, hk⟩
  · exact hk.elim
theorem is_spec_FormatInt : FnIs Tryz.prog 70 31 [.tmp 2] (Tryz.f70.body.getD .skip) := ⟨⟨Tryz.f70, by kernel_rfl, by kernel_rfl, by kernel_rfl, by kernel_rfl⟩, by kernel_rfl, by kernel_rfl⟩
def G_spec_FormatInt : Gm := Gm.none
theorem G_spec_FormatInt_ok : G_spec_FormatInt.ok Tryz.prog := Gm.none_ok
theorem gm_spec_FormatInt {r : List Oper} {n : Nat} : splB G_spec_FormatInt r n = true := rfl
set_option maxHeartbeats 1000000 in
set_option maxRecDepth 100000 in
theorem runs_spec_FormatInt (n : Int) (hp1 : -9223372036854775808 ≤ n ∧ n ≤ 9223372036854775807) : ARuns Tryz.prog 70 [.int .i64 n] [] (.str (bst (Lib.itoa n))) [] := by
  refine ARuns_bc G_spec_FormatInt_ok is_spec_FormatInt (by simp) fun hl hlB => ?_
  simp only [kcode_at, kreg_at, bc_skip, bc_seq, bc_cond, bc_block, bc_ret, bc_region, acond_tmp, aCase_b, afin_nil, cvE_some, resL, resV, cv, pack, entryE, inPrm, entryB, Option.getD_some, aops_nil, aops_plain, kont_at, aop_move, aop_assign, aop_binOp, evalE, getE, putE, getB, St.put, setsB, AV.ofV, List.length_nil, Nat.reduceEqDiff, ↓reduceIte, true_and, decide_eq_true_eq, decide_eq_false_iff_not, List.nil_append, List.cons_append, aInt_eql, aBin_eql, aInt_lss, aBin_lss, aBinW_f, isW_eql, isW_lss, bst_mk, un3, Tryz.f70]
  refine ⟨fun h => ?_, fun h => ?_⟩
  · subst h; rw [itoa_0]
  refine bc_loop (fun y : Int × List UInt8 => decF y.1.natAbs ++ y.2 = decF n.natAbs ∧ -9223372036854775808 ≤ y.1 ∧ y.1 ≤ 9223372036854775807)
    (fun y => ⟨[(0, .int .i64 y.1), (3, .str (bst y.2)), (4, .bool (decide (n < 0)))], []⟩) (fun y => y.1.natAbs)
    [0, 3, 4] [] (n, []) rfl (by simp [St.conv, St.bf, getE, putE, getB, cv, cvL, cvB, idx, still, pack, lifts, liftOne, liftC, liftK, killB, cellsOfB, setB]) ⟨by simp, hp1⟩ fun y hy => ?_
  simp only [kcode_at, kreg_at, bc_skip, bc_seq, bc_cond, bc_block, bc_exit, bc_ret, bc_region, lkX_cons, acond_tmp, aCase_b, afin_nil, cvE_some, resL, resV, cv, pack, AV.bid, List.map_nil, List.map_cons, List.append_nil, aops_nil, aops_plain, kont_at, aop_move, aop_assign, aop_buildSlice, aop_binOp, aop_unOp, aop_convert, evalE, getE, putE, getB, setB, St.put, setsB, AV.ofV, AV.bid, SC.len, List.length_nil, List.length_cons, Nat.reduceEqDiff, ↓reduceIte, true_and, and_true, decide_eq_true_eq, Bool.not_eq_true', Bool.not_eq_false', decide_eq_false_iff_not, List.nil_append, List.cons_append, aInt_add, aBin_add, aInt_quo, aBin_quo, aInt_rem, aBin_rem, aInt_neq, aBin_neq, aInt_lss, aBin_lss, aUn_i, aConv_int, aBuildL_some, aBuildS_some, aBinW_f, isW_tmp, isW_quo, isW_rem, isW_neq, isW_lss, rng1, cont, still, dies, snocs, SC.snoc, Nat.reduceLeDiff, List.flatMap_nil, List.flatMap_cons, Nat.zero_add, aBin_sadd, aConvS_int, aConvS_str, aToStr_at, bst_size, bst_add, bst_nums, sl3, un3, un5, un9, sl22, un22, inR64, List.map_cons, List.map_nil, inRu8]
  obtain ⟨hy1, hy2, hy3⟩ := hy
  have hlen := out_len hy1 hp1
  have hm := @tmod_abs y.1
  have hq : (y.1.tdiv 10).natAbs = y.1.natAbs / 10 := by rw [Int.natAbs_tdiv]; rfl
  refine ⟨fun h1 => ⟨by decide, fun h2 => ?_, fun h2 => ?_⟩, fun h1 => ⟨fun h2 => ⟨by omega, ?_⟩, fun h2 => ?_⟩⟩
  · have hs := dec_step (e := 0 - y.1.tmod 10) (by omega) (by omega) hy1 h1
    refine ⟨by omega, by omega, by omega, by omega, ⟨by decide, by omega, by omega⟩, klp_of (y.1.tdiv 10, [UInt8.ofNat (48 + (0 - y.1.tmod 10)).toNat] ++ y.2) (by simp [St.conv, St.bf, getE, putE, getB, cv, cvL, cvB, idx, still, pack, lifts, liftOne, liftC, liftK, killB, cellsOfB, setB]) ⟨hs.1, by omega, by omega⟩ hs.2⟩
  · have hs := dec_step (e := y.1.tmod 10) (by omega) (by omega) hy1 h1
    refine ⟨by omega, by omega, by omega, ⟨by decide, by omega, by omega⟩, klp_of (y.1.tdiv 10, [UInt8.ofNat (48 + y.1.tmod 10).toNat] ++ y.2) (by simp [St.conv, St.bf, getE, putE, getB, cv, cvL, cvB, idx, still, pack, lifts, liftOne, liftC, liftK, killB, cellsOfB, setB]) ⟨hs.1, by omega, by omega⟩ hs.2⟩
  · rw [itoa_n h2, ← hy1, h1]; simp [decF_0]
  · rw [itoa_p (by omega), ← hy1, h1]; simp [decF_0]
def lend_spec_FormatInt : List Nat := []
def sp_spec_FormatInt : List AV → List Bx → (AV → List Bx → Prop) → Prop
  | [.int .i64 n], [], K => (-9223372036854775808 ≤ n ∧ n ≤ 9223372036854775807) ∧ K (.str (bst (Lib.itoa n))) []
  | _, _, _ => False
theorem at_spec_FormatInt {n : Int} {K : AV → List Bx → Prop} : sp_spec_FormatInt [.int .i64 n] [] K = ((-9223372036854775808 ≤ n ∧ n ≤ 9223372036854775807) ∧ K (.str (bst (Lib.itoa n))) []) := id rfl
theorem ok_spec_FormatInt : ∀ args giv K, sp_spec_FormatInt args giv K → ∃ r outs, ARuns Tryz.prog 70 args giv r outs ∧ K r outs := by
  intro args giv K hk
  unfold sp_spec_FormatInt at hk
  split at hk
  · obtain ⟨hp1, hk⟩ := hk; exact ⟨_, _, runs_spec_FormatInt _ hp1, hk⟩
  · exact hk.elim
theorem is_spec_FormatSet : FnIs Tryz.prog 33 40 [.tmp 4] (Tryz.f33.body.getD .skip) := ⟨⟨Tryz.f33, by kernel_rfl, by kernel_rfl, by kernel_rfl, by kernel_rfl⟩, by kernel_rfl, by kernel_rfl⟩
def G_spec_FormatSet : Gm := ((((Gm.none.add 41 lend_spec_l1In sp_spec_l1In).add 42 lend_spec_l2Full sp_spec_l2Full).add 54 lend_spec_l2List sp_spec_l2List).add 70 lend_spec_FormatInt sp_spec_FormatInt)
theorem G_spec_FormatSet_ok : G_spec_FormatSet.ok Tryz.prog := (Gm.add_ok (Gm.add_ok (Gm.add_ok (Gm.add_ok Gm.none_ok ok_spec_l1In) ok_spec_l2Full) ok_spec_l2List) ok_spec_FormatInt)
theorem gm_spec_FormatSet {r : List Oper} {n : Nat} : splB G_spec_FormatSet r n = true := rfl
theorem gs_spec_FormatSet_41 : G_spec_FormatSet.sp 41 = sp_spec_l1In ∧ G_spec_FormatSet.lend 41 = lend_spec_l1In := ⟨rfl, rfl⟩
theorem gs_spec_FormatSet_42 : G_spec_FormatSet.sp 42 = sp_spec_l2Full ∧ G_spec_FormatSet.lend 42 = lend_spec_l2Full := ⟨rfl, rfl⟩
theorem gs_spec_FormatSet_54 : G_spec_FormatSet.sp 54 = sp_spec_l2List ∧ G_spec_FormatSet.lend 54 = lend_spec_l2List := ⟨rfl, rfl⟩
theorem gs_spec_FormatSet_70 : G_spec_FormatSet.sp 70 = sp_spec_FormatInt ∧ G_spec_FormatSet.lend 70 = lend_spec_FormatInt := ⟨rfl, rfl⟩
set_option maxHeartbeats 1000000 in
set_option maxRecDepth 100000 in
theorem runs_spec_FormatSet (n s : Int) : ARuns Tryz.prog 33 [.int .i64 n, .int .i64 s] [] (.str (bst (fmtS n s))) [] := by
  refine ARuns_bc G_spec_FormatSet_ok is_spec_FormatSet (by simp) fun hl hlB => ?_
  simp only [kcode_at, kreg_at, bc_skip, bc_seq, bc_cond, bc_block, bc_ret, bc_region, acond_tmp, aCase_t, aCase_b, afin_nil, cvE_some, resL, resV, cv, pack, entryE, inPrm, entryB, Option.getD_some, acall_clo, kcall_nil, selOf, inArgs, inA, inL, okA, okBx, okC, outA, outU, outB, deep, deepL, List.map_nil, List.map_cons, List.all_nil, List.all_cons, BEq.rfl, Bool.and_true, List.append_nil, aops_nil, aops_plain, aops_guard, kont_at, yes_at, no_at, aop_move, aop_assign, aop_pick, aop_unOp, SC0, aop_call, evalE, getE, putE, getB, setB, St.put, setsB, nth, AV.ofV, SC.len, List.length_nil, List.length_cons, Nat.reduceEqDiff, ↓reduceIte, true_and, and_true, Bool.not_eq_true', Bool.not_eq_false', List.nil_append, List.cons_append, aGuardO_some, aGuard_ft, aGuard_ff, aGuard_fb, aPick_t, aPick_f, aUn_b, mp_nil, lend, Nat.zero_add, BEq.rfl, bst_mk, sl3, gs_spec_FormatSet_41, at_spec_l1In, lend_spec_l1In, gs_spec_FormatSet_42, at_spec_l2Full, lend_spec_l2Full, gs_spec_FormatSet_54, at_spec_l2List, lend_spec_l2List, Tryz.f33]
  refine ⟨fun h => by rw [fmtS_f (by rw [h]; rfl)], fun h => ⟨by rw [inB_t] at h; omega, fun h2 => ?_, fun h2 => ?_⟩⟩
  · have e : inS n s = false := h2
    rw [fmtS_f (by rw [e]; simp)]
  · have hf := fmtS_t h h2
    have hs := h2
    rw [inB_t] at h hs
    have hfb := full_bd (n := n) (by omega)
    have hb := fun x => @elemsL_bd s x
    have hll := @elemsL_len s
    have hz := @elemsL_nil s (by omega) (by omega)
    rw [hf]
    refine ⟨by omega, ?_⟩
    clear hf h2
    generalize elemsL s = xs at *
    refine bc_loop (fun i : Nat => i ≤ xs.length)
      (fun i => ⟨[(5, .str (bst (numT xs i))), (6, .ref 0 xs.length), (7, .int .i64 i)], [.row 3 (.ints .i64 xs)]⟩) (fun i => xs.length - i)
      [5, 6, 7] [0] 0 rfl (by simp [St.conv, St.bf, getE, putE, getB, cv, cvL, cvB, idx, still, pack, lifts, liftOne, liftC, liftK, killB, cellsOfB, setB]; simp [numT, numL, Lib.join_nil]) (by omega) fun i hi => ?_
    simp only [kcode_at, kreg_at, bc_skip, bc_seq, bc_cond, bc_block, bc_exit, bc_ret, bc_region, lkX_cons, acond_tmp, aCase_b, afin_nil, cvE_some, resL, resV, cv, pack, acall_clo, kcall_nil, selOf, inArgs, inA, inL, okA, outA, outU, deep, deepL, List.map_nil, List.map_cons, List.all_nil, List.all_cons, BEq.rfl, Bool.and_true, List.append_nil, aops_nil, aops_plain, kont_at, aop_move, aop_assign, aop_load, aop_binOp, aop_indexAddr, aop_len, SC0, aop_call, evalE, getE, putE, getB, St.put, setsB, AV.ofV, AV.blk, SC.len, SC.get, List.length_nil, List.length_cons, Nat.reduceEqDiff, ↓reduceIte, true_and, and_true, decide_eq_true_eq, decide_eq_false_iff_not, Option.isSome, List.nil_append, List.cons_append, aInt_add, aBin_add, aInt_lss, aBin_lss, aInt_gtr, aBin_gtr, aIdx_row, aLen_ref, aLoad_rr, aBinW_f, isW_tmp, isW_addc, isW_eql, isW_gtr, Int.reduceLT, aBinW_dF, lend, Nat.reduceLeDiff, Nat.zero_add, BEq.rfl, aBin_sadd, aBin_seql, isW_adds, bst_size, bst_add, sEq_bst, sl3, ty3, un3, un9, sl24, un24, inR64, gs_spec_FormatSet_70, at_spec_FormatInt, lend_spec_FormatInt, Int.toNat_natCast]
    have hlt := numT_len (i := i) (fun x hx => hb x hx) hll
    have hsn := numT_s (xs := xs) (i := i)
    have hne := numT_ne (xs := xs) (i := i) hi
    have hx : i < xs.length → 0 ≤ xs.getD i 0 ∧ xs.getD i 0 < 62 := fun h => hb _ (by rw [List.getD_eq_getElem?_getD, List.getElem?_eq_getElem h]; exact List.getElem_mem _)
    have hil : i < xs.length → (Lib.itoa (xs.getD i 0)).length ≤ 20 := fun h => (itoa_len (by have := hx h; omega)).2
    refine ⟨fun h1 => ?_, fun h1 => ?_⟩
    · have hx := hx (by omega)
      have hil := hil (by omega)
      refine ⟨fun h2 => ⟨by omega, by omega, by omega, by omega, by rw [List.length_append]; simp only [List.length_cons, List.length_nil]; omega, by omega, klp_of (i + 1) ?_ (by omega) (by omega)⟩, fun h2 => ⟨by omega, by omega, by omega, by omega, by omega, klp_of (i + 1) ?_ (by omega) (by omega)⟩⟩
      · rw [hsn (by omega), if_neg (by omega), ← List.append_assoc]
        simp [St.conv, St.bf, getE, putE, getB, cv, cvL, cvB, idx, still, pack, lifts, liftOne, liftC, liftK, killB, cellsOfB, setB]
      · rw [hsn (by omega), if_pos (by omega)]
        have : numT xs i = [] := by rw [show i = 0 by omega]; rfl
        rw [this]
        simp [St.conv, St.bf, getE, putE, getB, cv, cvL, cvB, idx, still, pack, lifts, liftOne, liftC, liftK, killB, cellsOfB, setB]
    · have he : i = xs.length := by omega
      have hT : numT xs i = Lib.join (numL xs) [44] := by unfold numT; rw [he, List.take_length]
      refine ⟨fun h2 => ?_, fun h2 => ?_⟩
      · rw [if_pos (hz.1 (List.length_eq_zero_iff.1 (by
          rcases Nat.eq_zero_or_pos i with h | h
          · omega
          · exact absurd h2 (hne h))))]
      · rw [if_neg fun h0 => h2 (by rw [he, hz.2 h0]; rfl), hT]
def lend_spec_FormatSet : List Nat := []
def sp_spec_FormatSet : List AV → List Bx → (AV → List Bx → Prop) → Prop
  | [.int .i64 n, .int .i64 s], [], K => K (.str (bst (fmtS n s))) []
  | _, _, _ => False
theorem at_spec_FormatSet {n s : Int} {K : AV → List Bx → Prop} : sp_spec_FormatSet [.int .i64 n, .int .i64 s] [] K = (K (.str (bst (fmtS n s))) []) := id rfl
theorem ok_spec_FormatSet : ∀ args giv K, sp_spec_FormatSet args giv K → ∃ r outs, ARuns Tryz.prog 33 args giv r outs ∧ K r outs := by
  intro args giv K hk
  unfold sp_spec_FormatSet at hk
  split at hk
  · exact ⟨_, _, runs_spec_FormatSet _ _ , hk⟩
  · exact hk.elim
theorem is_spec_FormatFamily : FnIs Tryz.prog 8 37 [.tmp 2] (Tryz.f8.body.getD .skip) := ⟨⟨Tryz.f8, by kernel_rfl, by kernel_rfl, by kernel_rfl, by kernel_rfl⟩, by kernel_rfl, by kernel_rfl⟩
def G_spec_FormatFamily : Gm := ((Gm.none.add 9 lend_spec_IsFamily sp_spec_IsFamily).add 33 lend_spec_FormatSet sp_spec_FormatSet)
theorem G_spec_FormatFamily_ok : G_spec_FormatFamily.ok Tryz.prog := (Gm.add_ok (Gm.add_ok Gm.none_ok ok_spec_IsFamily) ok_spec_FormatSet)
theorem gm_spec_FormatFamily {r : List Oper} {n : Nat} : splB G_spec_FormatFamily r n = true := rfl
theorem gs_spec_FormatFamily_9 : G_spec_FormatFamily.sp 9 = sp_spec_IsFamily ∧ G_spec_FormatFamily.lend 9 = lend_spec_IsFamily := ⟨rfl, rfl⟩
theorem gs_spec_FormatFamily_33 : G_spec_FormatFamily.sp 33 = sp_spec_FormatSet ∧ G_spec_FormatFamily.lend 33 = lend_spec_FormatSet := ⟨rfl, rfl⟩
set_option maxHeartbeats 1000000 in
set_option maxRecDepth 100000 in
theorem runs_spec_FormatFamily (n : Int) (xs : List Int) (hp1 : xs.length ≤ 1048576) : ARuns Tryz.prog 8 [.agg [.int .i64 n, .sl none (.ints .i64 xs)]] [] (.str (bst (fmtF n xs))) [] := by
  refine ARuns_bc G_spec_FormatFamily_ok is_spec_FormatFamily (by simp) fun hl hlB => ?_
  simp only [kcode_at, kreg_at, bc_seq, bc_block, bc_region, entryE, inPrm, entryB, Option.getD_some, aops_nil, aops_plain, kont_at, aop_assign, aop_box, evalE, getE, putE, getB, setB, St.put, setsB, AV.ofV, List.length_nil, List.length_cons, Nat.reduceEqDiff, ↓reduceIte, List.nil_append, List.cons_append, aBox_some, AV.cells, Nat.zero_add, bst_mk, Tryz.f8]
  refine bc_loop (fun i : Nat => i ≤ xs.length ∧ (famB n xs = false → i = 0))
    (fun i => ⟨[(1, .ptr 0 0), (3, .str (bst (famT n xs i))), (4, .int .i64 i)], [.box [.int .i64 n, .sl none (.ints .i64 xs)]]⟩) (fun i => xs.length - i)
    [1, 3, 4] [0] 0 rfl (by simp [St.conv, St.bf, getE, putE, getB, cv, cvL, cvB, idx, still, pack, lifts, liftOne, liftC, liftK, killB, cellsOfB, setB]; simp [famT, famL, Lib.join_nil]) (by simp) fun i hi => ?_
  simp only [kcode_at, kreg_at, bc_skip, bc_seq, bc_cond, bc_block, bc_exit, bc_ret, bc_region, lkX_cons, acond_tmp, aCase_f, aCase_b, afin_nil, cvE_some, resL, resV, cv, pack, acall_clo, kcall_nil, selOf, inArgs, inA, inL, okA, outA, outU, deep, deepL, List.map_nil, List.map_cons, List.all_nil, List.all_cons, BEq.rfl, Bool.and_true, List.append_nil, aops_nil, aops_plain, aops_guard, kont_at, yes_at, no_at, aop_move, aop_assign, aop_pick, aop_load, aop_binOp, aop_fieldAddr, aop_indexAddr, aop_len, SC0, aop_call, evalE, getE, putE, getB, St.put, setsB, nth, AV.ofV, AV.blk, SC.len, SC.get, List.length_nil, List.length_cons, Nat.reduceEqDiff, Nat.reduceAdd, ↓reduceIte, true_and, and_true, decide_eq_true_eq, decide_eq_false_iff_not, Option.isSome, List.nil_append, List.cons_append, aGuardO_some, aGuard_tt, aGuard_tf, aGuard_tb, aPick_t, aPick_f, aInt_add, aBin_add, aInt_lss, aBin_lss, aInt_gtr, aBin_gtr, aField_ptr, aIdx_sl, aLen_sl, aLoad_1b, aLoad_fb, aLoad_ep, aBinW_f, isW_tmp, isW_addc, isW_eql, isW_gtr, Int.reduceLT, aBinW_dF, bc_draw, kregD_at, aopsD_nil, aopsD_plain, kontD_at, splW_t, contD_at, splD_int, splD_str, splD_sl, splD_ptr, splD_ep, addTr_nil, addTr_cons, regC_none, regR_nil, regR_cons, lend, List.getD_cons_zero, List.getD_cons_succ, Nat.reduceLT, Nat.reduceLeDiff, Nat.zero_add, BEq.rfl, aBin_sadd, aBin_seql, isW_adds, bst_size, bst_add, sEq_bst, sl3, ty3, un3, un9, sl24, ty24, un24, ty26, sl26, inR64, gm_spec_FormatFamily, gs_spec_FormatFamily_9, at_spec_IsFamily, lend_spec_IsFamily, gs_spec_FormatFamily_33, at_spec_FormatSet, lend_spec_FormatSet, Int.toNat_natCast]
  obtain ⟨h1, h2⟩ := hi
  have hlt := @famT_len n xs i
  have hfl := @fmtS_len n (xs.getD i 0)
  have hsn := famT_s (n := n) (xs := xs) (i := i)
  have fin : (famB n xs = false ∨ i = xs.length) → (famT n xs i = [] → (famB n xs = true → AV.str (bst [110, 111, 110, 101]) = AV.str (bst (fmtF n xs))) ∧ (famB n xs = false → AV.str (bst (famT n xs i)) = AV.str (bst (fmtF n xs)))) ∧
      (¬ famT n xs i = [] → AV.str (bst (famT n xs i)) = AV.str (bst (fmtF n xs))) := fun hc => by
    rcases Bool.eq_false_or_eq_true (famB n xs) with hf | hf
    · have hi : i = xs.length := by
        rcases hc with h | h
        · rw [hf] at h; cases h
        · exact h
      have hT : famT n xs i = Lib.join (famL n xs) [124] := by unfold famT; rw [hi, List.take_length]
      rw [hT, fmtF_t hf]
      refine ⟨fun h => ⟨fun _ => ?_, fun h => absurd h (by rw [hf]; simp)⟩, fun h => ?_⟩
      · by_cases hx : xs = []
        · rw [if_pos hx]
        · exact absurd h (famJ_ne hf hx)
      · rw [if_neg fun hx => h (by rw [hx]; rfl)]
    · have h0 := h2 hf
      have hT : famT n xs i = [] := by rw [h0]; rfl
      rw [hT, fmtF_f hf, hf]
      exact ⟨fun _ => ⟨fun h => absurd h (by simp), fun _ => rfl⟩, fun h => absurd rfl h⟩
  refine ⟨fun g1 => ⟨fun g2 => ⟨fun g3 => ⟨by omega, by omega, by rw [List.length_append]; simp only [List.length_cons, List.length_nil]; omega, by omega, klp_of (i + 1) ?_ ⟨by omega, fun h => absurd h (by rw [g2]; simp)⟩ (by omega)⟩, fun g3 => ⟨by omega, by omega, by omega, klp_of (i + 1) ?_ ⟨by omega, fun h => absurd h (by rw [g2]; simp)⟩ (by omega)⟩⟩, fun g2 => fin (.inl g2)⟩, fun g1 => fin (.inr (by omega))⟩
  · rw [hsn (by omega), if_neg (by omega), ← List.append_assoc]
    simp [St.conv, St.bf, getE, putE, getB, cv, cvL, cvB, idx, still, pack, lifts, liftOne, liftC, liftK, killB, cellsOfB, setB]
  · rw [hsn (by omega), if_pos (by omega)]
    have : famT n xs i = [] := by rw [show i = 0 by omega]; rfl
    rw [this]
    simp [St.conv, St.bf, getE, putE, getB, cv, cvL, cvB, idx, still, pack, lifts, liftOne, liftC, liftK, killB, cellsOfB, setB]
def lend_spec_FormatFamily : List Nat := []
def sp_spec_FormatFamily : List AV → List Bx → (AV → List Bx → Prop) → Prop
  | [.agg [.int .i64 n, .sl none (.ints .i64 xs)]], [], K => (xs.length ≤ 1048576) ∧ K (.str (bst (fmtF n xs))) []
  | _, _, _ => False
theorem at_spec_FormatFamily {n : Int} {xs : List Int} {K : AV → List Bx → Prop} : sp_spec_FormatFamily [.agg [.int .i64 n, .sl none (.ints .i64 xs)]] [] K = ((xs.length ≤ 1048576) ∧ K (.str (bst (fmtF n xs))) []) := id rfl
theorem ok_spec_FormatFamily : ∀ args giv K, sp_spec_FormatFamily args giv K → ∃ r outs, ARuns Tryz.prog 8 args giv r outs ∧ K r outs := by
  intro args giv K hk
  unfold sp_spec_FormatFamily at hk
  split at hk
  · obtain ⟨hp1, hk⟩ := hk; exact ⟨_, _, runs_spec_FormatFamily _ _ hp1, hk⟩
  · exact hk.elim
theorem is_spec_l2Same : FnIs Tryz.prog 44 26 [.tmp 4] (Tryz.f44.body.getD .skip) := ⟨⟨Tryz.f44, by kernel_rfl, by kernel_rfl, by kernel_rfl, by kernel_rfl⟩, by kernel_rfl, by kernel_rfl⟩
def G_spec_l2Same : Gm := Gm.none
theorem G_spec_l2Same_ok : G_spec_l2Same.ok Tryz.prog := Gm.none_ok
theorem gm_spec_l2Same {r : List Oper} {n : Nat} : splB G_spec_l2Same r n = true := rfl
set_option maxHeartbeats 1000000 in
set_option maxRecDepth 100000 in
theorem runs_spec_l2Same (xs ys : List Int) : ARuns Tryz.prog 44 [.sl none (.ints .i64 xs), .sl none (.ints .i64 ys)] [] (.bool (decide (xs = ys))) [] := by
  refine ARuns_bc G_spec_l2Same_ok is_spec_l2Same (by simp) fun hl hlB => ?_
  simp only [kcode_at, kreg_at, bc_skip, bc_seq, bc_cond, bc_block, bc_ret, bc_region, acond_tmp, aCase_b, afin_nil, cvE_some, resL, resV, cv, pack, entryE, inPrm, entryB, Option.getD_some, aops_nil, aops_plain, kont_at, aop_move, aop_assign, aop_binOp, aop_len, evalE, getE, putE, getB, St.put, setsB, AV.ofV, SC.len, List.length_nil, Nat.reduceEqDiff, ↓reduceIte, true_and, decide_eq_true_eq, Bool.not_eq_true', Bool.not_eq_false', decide_eq_false_iff_not, List.nil_append, List.cons_append, aInt_neq, aBin_neq, aLen_prm, aBinW_f, isW_tmp, Nat.zero_add, un3, un24, Tryz.f44]
  simp only [lensA, lenA, lenSC] at hl
  refine ⟨fun h => ?_, fun h => ?_⟩
  · congr 1; symm; simp; intro e; rw [e] at h; exact h rfl
  replace h : xs.length = ys.length := by omega
  refine bc_loop (fun i : Nat => i ≤ xs.length ∧ ∀ k, k < i → xs.getD k 0 = ys.getD k 0)
    (fun i => ⟨[(0, .prm 0 (.ints .i64 xs)), (1, .prm 1 (.ints .i64 ys)), (5, .int .i64 i)], []⟩) (fun i => xs.length - i)
    [0, 1, 5] [] 0 rfl rfl (by simp) fun i ⟨h1, h2⟩ => ?_
  simp only [kcode_at, kreg_at, bc_skip, bc_seq, bc_cond, bc_block, bc_exit, bc_ret, bc_region, lkX_cons, acond_tmp, aCase_t, aCase_f, aCase_b, afin_nil, cvE_some, resL, resV, cv, pack, aops_nil, aops_plain, kont_at, aop_move, aop_assign, aop_load, aop_binOp, aop_indexAddr, aop_len, evalE, getE, putE, getB, St.put, setsB, AV.ofV, SC.len, SC.get, List.length_nil, Nat.reduceEqDiff, Nat.reduceAdd, ↓reduceIte, true_and, decide_eq_true_eq, Bool.not_eq_true', Bool.not_eq_false', decide_eq_false_iff_not, Option.isSome, List.nil_append, List.cons_append, aInt_add, aBin_add, aInt_neq, aBin_neq, aInt_lss, aBin_lss, aIdx_prm, aLen_prm, aLoad_ep, aBinW_f, isW_tmp, isW_addc, Int.reduceLT, aBinW_dF, bc_draw, kregD_at, aopsD_nil, aopsD_plain, kontD_at, splW_t, contD_at, splD_bool, splD_int, splD_prm, splD_ep, addTr_nil, regR_nil, Nat.zero_add, ty3, un3, sl24, un24, inR64, gm_spec_l2Same, Int.toNat_natCast]
  refine ⟨fun hi => ⟨by omega, by omega, fun hne => ?_, fun he => ⟨by omega, ?_⟩⟩, fun hi => ?_⟩
  · congr 1; symm; simp; intro e; rw [e] at hne; exact hne rfl
  · refine klp_of (i + 1) rfl ⟨by omega, fun k hk => ?_⟩ (by omega)
    by_cases e : k = i
    · rw [e]; exact he
    · exact h2 k (by omega)
  · congr 1; symm; simp
    exact eq_of_get h fun k hk => h2 k (by omega)
def lend_spec_l2Same : List Nat := []
def sp_spec_l2Same : List AV → List Bx → (AV → List Bx → Prop) → Prop
  | [.sl none (.ints .i64 xs), .sl none (.ints .i64 ys)], [], K => K (.bool (decide (xs = ys))) []
  | _, _, _ => False
theorem at_spec_l2Same {xs ys : List Int} {K : AV → List Bx → Prop} : sp_spec_l2Same [.sl none (.ints .i64 xs), .sl none (.ints .i64 ys)] [] K = (K (.bool (decide (xs = ys))) []) := id rfl
theorem ok_spec_l2Same : ∀ args giv K, sp_spec_l2Same args giv K → ∃ r outs, ARuns Tryz.prog 44 args giv r outs ∧ K r outs := by
  intro args giv K hk
  unfold sp_spec_l2Same at hk
  split at hk
  · exact ⟨_, _, runs_spec_l2Same _ _ , hk⟩
  · exact hk.elim
theorem is_spec_EqualFamilies : FnIs Tryz.prog 11 17 [.tmp 4] (Tryz.f11.body.getD .skip) := ⟨⟨Tryz.f11, by kernel_rfl, by kernel_rfl, by kernel_rfl, by kernel_rfl⟩, by kernel_rfl, by kernel_rfl⟩
def G_spec_EqualFamilies : Gm := (Gm.none.add 44 lend_spec_l2Same sp_spec_l2Same)
theorem G_spec_EqualFamilies_ok : G_spec_EqualFamilies.ok Tryz.prog := (Gm.add_ok Gm.none_ok ok_spec_l2Same)
theorem gm_spec_EqualFamilies {r : List Oper} {n : Nat} : splB G_spec_EqualFamilies r n = true := rfl
theorem gs_spec_EqualFamilies_44 : G_spec_EqualFamilies.sp 44 = sp_spec_l2Same ∧ G_spec_EqualFamilies.lend 44 = lend_spec_l2Same := ⟨rfl, rfl⟩
set_option maxHeartbeats 1000000 in
set_option maxRecDepth 100000 in
theorem runs_spec_EqualFamilies (n : Int) (xs : List Int) (m : Int) (ys : List Int) : ARuns Tryz.prog 11 [.agg [.int .i64 n, .sl none (.ints .i64 xs)], .agg [.int .i64 m, .sl none (.ints .i64 ys)]] [] (.bool (decide (n = m) && decide (xs = ys))) [] := by
  refine ARuns_bc G_spec_EqualFamilies_ok is_spec_EqualFamilies (by simp) fun hl hlB => ?_
  simp only [kcode_at, kreg_at, bc_seq, bc_ret, bc_region, afin_nil, cvE_some, resL, resV, cv, pack, entryE, inPrm, entryB, Option.getD_some, acall_clo, kcall_nil, selOf, inArgs, inA, inL, okA, outA, outU, deep, deepL, List.map_nil, List.map_cons, List.all_nil, List.all_cons, BEq.rfl, Bool.and_true, List.append_nil, aops_nil, aops_plain, aops_guard, kont_at, yes_at, no_at, aop_move, aop_assign, aop_pick, aop_box, aop_load, aop_binOp, aop_fieldAddr, SC0, aop_call, evalE, getE, putE, getB, setB, St.put, setsB, nth, AV.ofV, AV.blk, SC.len, List.length_nil, List.length_cons, Nat.reduceEqDiff, Nat.reduceAdd, ↓reduceIte, true_and, and_true, decide_eq_true_eq, decide_eq_false_iff_not, List.nil_append, List.cons_append, aGuardO_some, aGuard_tt, aGuard_tf, aGuard_tb, aPick_t, aPick_f, aBox_some, aInt_eql, aBin_eql, aField_ptr, aLoad_1b, aBinW_f, isW_tmp, lend, AV.cells, List.getD_cons_zero, List.getD_cons_succ, Nat.reduceLT, Nat.zero_add, BEq.rfl, ty3, un3, sl24, ty24, ty26, gs_spec_EqualFamilies_44, at_spec_l2Same, lend_spec_l2Same, Tryz.f11]
  refine ⟨fun h => by rw [decide_eq_true h]; rfl, fun h => by rw [decide_eq_false h]; rfl⟩
def lend_spec_EqualFamilies : List Nat := []
def sp_spec_EqualFamilies : List AV → List Bx → (AV → List Bx → Prop) → Prop
  | [.agg [.int .i64 n, .sl none (.ints .i64 xs)], .agg [.int .i64 m, .sl none (.ints .i64 ys)]], [], K => K (.bool (decide (n = m) && decide (xs = ys))) []
  | _, _, _ => False
theorem at_spec_EqualFamilies {n : Int} {xs : List Int} {m : Int} {ys : List Int} {K : AV → List Bx → Prop} : sp_spec_EqualFamilies [.agg [.int .i64 n, .sl none (.ints .i64 xs)], .agg [.int .i64 m, .sl none (.ints .i64 ys)]] [] K = (K (.bool (decide (n = m) && decide (xs = ys))) []) := id rfl
theorem ok_spec_EqualFamilies : ∀ args giv K, sp_spec_EqualFamilies args giv K → ∃ r outs, ARuns Tryz.prog 11 args giv r outs ∧ K r outs := by
  intro args giv K hk
  unfold sp_spec_EqualFamilies at hk
  split at hk
  · exact ⟨_, _, runs_spec_EqualFamilies _ _ _ _ , hk⟩
  · exact hk.elim
theorem is_impl_minimalOf_1 : FnIs Tryz.prog 77 13 [.tmp 3] (Tryz.f77.body.getD .skip) := ⟨⟨Tryz.f77, by kernel_rfl, by kernel_rfl, by kernel_rfl, by kernel_rfl⟩, by kernel_rfl, by kernel_rfl⟩
def G_impl_minimalOf_1 : Gm := Gm.none
theorem G_impl_minimalOf_1_ok : G_impl_minimalOf_1.ok Tryz.prog := Gm.none_ok
theorem gm_impl_minimalOf_1 {r : List Oper} {n : Nat} : splB G_impl_minimalOf_1 r n = true := rfl
set_option maxHeartbeats 1000000 in
set_option maxRecDepth 100000 in
theorem runs_impl_minimalOf_1 (t s : Int) : ARuns Tryz.prog 77 [.int .i64 t, .pv [.int .i64 s] 0] [] (.bool (subP s t)) [] := by
  refine ARuns_bc G_impl_minimalOf_1_ok is_impl_minimalOf_1 (by simp) fun hl hlB => ?_
  simp only [kcode_at, kreg_at, bc_seq, bc_ret, bc_region, afin_nil, cvE_some, resL, resV, cv, pack, entryE, inPrm, entryB, Option.getD_some, aops_nil, aops_plain, aops_guard, kont_at, yes_at, no_at, aop_move, aop_assign, aop_pick, aop_load, aop_binOp, evalE, getE, putE, getB, St.put, setsB, nth, AV.ofV, List.length_nil, List.length_cons, Nat.reduceEqDiff, ↓reduceIte, true_and, decide_eq_true_eq, Bool.not_eq_true', Bool.not_eq_false', decide_eq_false_iff_not, List.nil_append, List.cons_append, aGuardO_some, aGuard_tt, aGuard_tf, aGuard_tb, aPick_t, aPick_f, aInt_andNot, aBin_andNot, aInt_eql, aBin_eql, aInt_neq, aBin_neq, aLoad_1p, aBinW_f, isW_tmp, isW_eql, List.getD_cons_zero, Nat.reduceLT, Nat.zero_add, ty3, un3, Tryz.f77]
  exact ⟨fun h => by rw [subP_ne h], fun h => by rw [subP_eq h]⟩
def lend_impl_minimalOf_1 : List Nat := []
def sp_impl_minimalOf_1 : List AV → List Bx → (AV → List Bx → Prop) → Prop
  | [.int .i64 t, .pv [.int .i64 s] 0], [], K => K (.bool (subP s t)) []
  | _, _, _ => False
theorem at_impl_minimalOf_1 {t s : Int} {K : AV → List Bx → Prop} : sp_impl_minimalOf_1 [.int .i64 t, .pv [.int .i64 s] 0] [] K = (K (.bool (subP s t)) []) := id rfl
theorem ok_impl_minimalOf_1 : ∀ args giv K, sp_impl_minimalOf_1 args giv K → ∃ r outs, ARuns Tryz.prog 77 args giv r outs ∧ K r outs := by
  intro args giv K hk
  unfold sp_impl_minimalOf_1 at hk
  split at hk
  · exact ⟨_, _, runs_impl_minimalOf_1 _ _ , hk⟩
  · exact hk.elim
theorem is_impl_MaximalSets_1 : FnIs Tryz.prog 48 13 [.tmp 3] (Tryz.f48.body.getD .skip) := ⟨⟨Tryz.f48, by kernel_rfl, by kernel_rfl, by kernel_rfl, by kernel_rfl⟩, by kernel_rfl, by kernel_rfl⟩
def G_impl_MaximalSets_1 : Gm := Gm.none
theorem G_impl_MaximalSets_1_ok : G_impl_MaximalSets_1.ok Tryz.prog := Gm.none_ok
theorem gm_impl_MaximalSets_1 {r : List Oper} {n : Nat} : splB G_impl_MaximalSets_1 r n = true := rfl
set_option maxHeartbeats 1000000 in
set_option maxRecDepth 100000 in
theorem runs_impl_MaximalSets_1 (t s : Int) : ARuns Tryz.prog 48 [.int .i64 t, .pv [.int .i64 s] 0] [] (.bool (supP s t)) [] := by
  refine ARuns_bc G_impl_MaximalSets_1_ok is_impl_MaximalSets_1 (by simp) fun hl hlB => ?_
  simp only [kcode_at, kreg_at, bc_seq, bc_ret, bc_region, afin_nil, cvE_some, resL, resV, cv, pack, entryE, inPrm, entryB, Option.getD_some, aops_nil, aops_plain, aops_guard, kont_at, yes_at, no_at, aop_move, aop_assign, aop_pick, aop_load, aop_binOp, evalE, getE, putE, getB, St.put, setsB, nth, AV.ofV, List.length_nil, List.length_cons, Nat.reduceEqDiff, ↓reduceIte, true_and, decide_eq_true_eq, Bool.not_eq_true', Bool.not_eq_false', decide_eq_false_iff_not, List.nil_append, List.cons_append, aGuardO_some, aGuard_tt, aGuard_tf, aGuard_tb, aPick_t, aPick_f, aInt_andNot, aBin_andNot, aInt_eql, aBin_eql, aInt_neq, aBin_neq, aLoad_1p, aBinW_f, isW_tmp, isW_eql, List.getD_cons_zero, Nat.reduceLT, Nat.zero_add, ty3, un3, Tryz.f48]
  exact ⟨fun h => by rw [supP_ne h], fun h => by rw [supP_eq h]⟩
def lend_impl_MaximalSets_1 : List Nat := []
def sp_impl_MaximalSets_1 : List AV → List Bx → (AV → List Bx → Prop) → Prop
  | [.int .i64 t, .pv [.int .i64 s] 0], [], K => K (.bool (supP s t)) []
  | _, _, _ => False
theorem at_impl_MaximalSets_1 {t s : Int} {K : AV → List Bx → Prop} : sp_impl_MaximalSets_1 [.int .i64 t, .pv [.int .i64 s] 0] [] K = (K (.bool (supP s t)) []) := id rfl
theorem ok_impl_MaximalSets_1 : ∀ args giv K, sp_impl_MaximalSets_1 args giv K → ∃ r outs, ARuns Tryz.prog 48 args giv r outs ∧ K r outs := by
  intro args giv K hk
  unfold sp_impl_MaximalSets_1 at hk
  split at hk
  · exact ⟨_, _, runs_impl_MaximalSets_1 _ _ , hk⟩
  · exact hk.elim
theorem is_slices_IndexFunc_int_int : FnIs Tryz.prog 78 19 [.tmp 4] (Tryz.f78.body.getD .skip) := ⟨⟨Tryz.f78, by kernel_rfl, by kernel_rfl, by kernel_rfl, by kernel_rfl⟩, by kernel_rfl, by kernel_rfl⟩
def G_slices_IndexFunc_int_int : Gm := ((Gm.none.add 77 lend_impl_minimalOf_1 sp_impl_minimalOf_1).add 48 lend_impl_MaximalSets_1 sp_impl_MaximalSets_1)
theorem G_slices_IndexFunc_int_int_ok : G_slices_IndexFunc_int_int.ok Tryz.prog := (Gm.add_ok (Gm.add_ok Gm.none_ok ok_impl_minimalOf_1) ok_impl_MaximalSets_1)
theorem gm_slices_IndexFunc_int_int {r : List Oper} {n : Nat} : splB G_slices_IndexFunc_int_int r n = true := rfl
theorem gs_slices_IndexFunc_int_int_77 : G_slices_IndexFunc_int_int.sp 77 = sp_impl_minimalOf_1 ∧ G_slices_IndexFunc_int_int.lend 77 = lend_impl_minimalOf_1 := ⟨rfl, rfl⟩
theorem gs_slices_IndexFunc_int_int_48 : G_slices_IndexFunc_int_int.sp 48 = sp_impl_MaximalSets_1 ∧ G_slices_IndexFunc_int_int.lend 48 = lend_impl_MaximalSets_1 := ⟨rfl, rfl⟩
set_option maxHeartbeats 1000000 in
set_option maxRecDepth 100000 in
theorem runs_slices_IndexFunc_int_int (l : List Int) (s : Int) : ARuns Tryz.prog 78 [.sl none (.ints .i64 l), .clo 77 [.pv [.int .i64 s] 0]] [] (.int .i64 (idxP (subP s) l)) [] := by
  refine ARuns_bc G_slices_IndexFunc_int_int_ok is_slices_IndexFunc_int_int (by simp) fun hl hlB => ?_
  simp only [kcode_at, kreg_at, bc_seq, bc_block, bc_region, entryE, inPrm, entryB, Option.getD_some, aops_nil, aops_plain, kont_at, aop_move, aop_assign, aop_len, evalE, getE, putE, getB, St.put, setsB, AV.ofV, SC.len, List.length_nil, Nat.reduceEqDiff, ↓reduceIte, List.nil_append, List.cons_append, aLen_prm, Nat.zero_add, un24, Tryz.f78]
  simp only [lensA, lenA, lenSC] at hl
  refine bc_loop (fun i : Nat => i ≤ l.length ∧ ∀ k, k < i → subP s (l.getD k 0) = false)
    (fun i => ⟨[(0, .prm 0 (.ints .i64 l)), (1, .clo 77 [.pv [.int .i64 s] 0]), (7, .int .i64 l.length), (8, .int .i64 i)], []⟩) (fun i => l.length - i)
    [0, 1, 7, 8] [] 0 rfl (by simp [St.conv, St.bf, getE, putE, getB, cv, cvL, cvB, idx, still, pack, lifts, liftOne, liftC, liftK, killB, cellsOfB, setB]) (by simp) fun i ⟨h1, h2⟩ => ?_
  simp only [kcode_at, kreg_at, bc_skip, bc_seq, bc_cond, bc_block, bc_exit, bc_ret, bc_region, lkX_cons, acond_tmp, aCase_b, afin_nil, cvE_some, resL, resV, cv, pack, acall_clo, kcall_nil, selOf, inArgs, inA, inL, okA, outA, outU, deep, deepL, List.map_nil, List.map_cons, List.all_nil, List.all_cons, BEq.rfl, Bool.and_true, List.append_nil, aops_nil, aops_plain, kont_at, aop_move, aop_assign, aop_load, aop_binOp, aop_indexAddr, SC0, aop_call, evalE, getE, putE, getB, St.put, setsB, AV.ofV, SC.len, SC.get, List.length_nil, Nat.reduceEqDiff, ↓reduceIte, true_and, and_true, decide_eq_true_eq, decide_eq_false_iff_not, Option.isSome, List.nil_append, List.cons_append, aInt_add, aBin_add, aInt_lss, aBin_lss, aIdx_prm, aLoad_ep, aBinW_f, isW_tmp, isW_addc, Int.reduceLT, aBinW_dF, lend, BEq.rfl, plainA, sl3, ty3, un3, sl24, inR64, gs_slices_IndexFunc_int_int_77, at_impl_minimalOf_1, lend_impl_minimalOf_1, Int.toNat_natCast]
  refine ⟨fun hi => ⟨by omega, fun ht => ?_, fun hf => ⟨by omega, klp_of (i + 1) (by simp [St.conv, St.bf, getE, putE, getB, cv, cvL, cvB, idx, still, pack, lifts, liftOne, liftC, liftK, killB, cellsOfB, setB]) ⟨by omega, fun k hk => ?_⟩ (by omega)⟩⟩, fun hi => ?_⟩
  · rw [(idxP_some (by omega) ht h2).1]
  · by_cases e : k = i
    · subst e; exact hf
    · exact h2 k (by omega)
  · rw [(idxP_none fun k hk => h2 k (by omega)).1]
set_option maxHeartbeats 1000000 in
set_option maxRecDepth 100000 in
theorem runs_slices_IndexFunc_int_int_v2 (l : List Int) (s : Int) : ARuns Tryz.prog 78 [.sl none (.ints .i64 l), .clo 48 [.pv [.int .i64 s] 0]] [] (.int .i64 (idxP (supP s) l)) [] := by
  refine ARuns_bc G_slices_IndexFunc_int_int_ok is_slices_IndexFunc_int_int (by simp) fun hl hlB => ?_
  simp only [kcode_at, kreg_at, bc_seq, bc_block, bc_region, entryE, inPrm, entryB, Option.getD_some, aops_nil, aops_plain, kont_at, aop_move, aop_assign, aop_len, evalE, getE, putE, getB, St.put, setsB, AV.ofV, SC.len, List.length_nil, Nat.reduceEqDiff, ↓reduceIte, List.nil_append, List.cons_append, aLen_prm, Nat.zero_add, un24, Tryz.f78]
  simp only [lensA, lenA, lenSC] at hl
  refine bc_loop (fun i : Nat => i ≤ l.length ∧ ∀ k, k < i → supP s (l.getD k 0) = false)
    (fun i => ⟨[(0, .prm 0 (.ints .i64 l)), (1, .clo 48 [.pv [.int .i64 s] 0]), (7, .int .i64 l.length), (8, .int .i64 i)], []⟩) (fun i => l.length - i)
    [0, 1, 7, 8] [] 0 rfl (by simp [St.conv, St.bf, getE, putE, getB, cv, cvL, cvB, idx, still, pack, lifts, liftOne, liftC, liftK, killB, cellsOfB, setB]) (by simp) fun i ⟨h1, h2⟩ => ?_
  simp only [kcode_at, kreg_at, bc_skip, bc_seq, bc_cond, bc_block, bc_exit, bc_ret, bc_region, lkX_cons, acond_tmp, aCase_b, afin_nil, cvE_some, resL, resV, cv, pack, acall_clo, kcall_nil, selOf, inArgs, inA, inL, okA, outA, outU, deep, deepL, List.map_nil, List.map_cons, List.all_nil, List.all_cons, BEq.rfl, Bool.and_true, List.append_nil, aops_nil, aops_plain, kont_at, aop_move, aop_assign, aop_load, aop_binOp, aop_indexAddr, SC0, aop_call, evalE, getE, putE, getB, St.put, setsB, AV.ofV, SC.len, SC.get, List.length_nil, Nat.reduceEqDiff, ↓reduceIte, true_and, and_true, decide_eq_true_eq, decide_eq_false_iff_not, Option.isSome, List.nil_append, List.cons_append, aInt_add, aBin_add, aInt_lss, aBin_lss, aIdx_prm, aLoad_ep, aBinW_f, isW_tmp, isW_addc, Int.reduceLT, aBinW_dF, lend, BEq.rfl, plainA, sl3, ty3, un3, sl24, inR64, gs_slices_IndexFunc_int_int_48, at_impl_MaximalSets_1, lend_impl_MaximalSets_1, Int.toNat_natCast]
  refine ⟨fun hi => ⟨by omega, fun ht => ?_, fun hf => ⟨by omega, klp_of (i + 1) (by simp [St.conv, St.bf, getE, putE, getB, cv, cvL, cvB, idx, still, pack, lifts, liftOne, liftC, liftK, killB, cellsOfB, setB]) ⟨by omega, fun k hk => ?_⟩ (by omega)⟩⟩, fun hi => ?_⟩
  · rw [(idxP_some (by omega) ht h2).1]
  · by_cases e : k = i
    · subst e; exact hf
    · exact h2 k (by omega)
  · rw [(idxP_none fun k hk => h2 k (by omega)).1]
def lend_slices_IndexFunc_int_int : List Nat := []
def sp_slices_IndexFunc_int_int : List AV → List Bx → (AV → List Bx → Prop) → Prop
  | [.sl none (.ints .i64 l), .clo 77 [.pv [.int .i64 s] 0]], [], K => K (.int .i64 (idxP (subP s) l)) []
  | [.sl none (.ints .i64 l), .clo 48 [.pv [.int .i64 s] 0]], [], K => K (.int .i64 (idxP (supP s) l)) []
  | _, _, _ => False
theorem at_slices_IndexFunc_int_int {l : List Int} {s : Int} {K : AV → List Bx → Prop} : sp_slices_IndexFunc_int_int [.sl none (.ints .i64 l), .clo 77 [.pv [.int .i64 s] 0]] [] K = (K (.int .i64 (idxP (subP s) l)) []) := id rfl
theorem at_slices_IndexFunc_int_int_v2 {l : List Int} {s : Int} {K : AV → List Bx → Prop} : sp_slices_IndexFunc_int_int [.sl none (.ints .i64 l), .clo 48 [.pv [.int .i64 s] 0]] [] K = (K (.int .i64 (idxP (supP s) l)) []) := id rfl
theorem ok_slices_IndexFunc_int_int : ∀ args giv K, sp_slices_IndexFunc_int_int args giv K → ∃ r outs, ARuns Tryz.prog 78 args giv r outs ∧ K r outs := by
  intro args giv K hk
  unfold sp_slices_IndexFunc_int_int at hk
  split at hk
  · exact ⟨_, _, runs_slices_IndexFunc_int_int _ _ , hk⟩
  · exact ⟨_, _, runs_slices_IndexFunc_int_int_v2 _ _ , hk⟩
  · exact hk.elim
theorem is_slices_ContainsFunc_int_int : FnIs Tryz.prog 47 9 [.tmp 4] (Tryz.f47.body.getD .skip) := ⟨⟨Tryz.f47, by kernel_rfl, by kernel_rfl, by kernel_rfl, by kernel_rfl⟩, by kernel_rfl, by kernel_rfl⟩
def G_slices_ContainsFunc_int_int : Gm := (Gm.none.add 78 lend_slices_IndexFunc_int_int sp_slices_IndexFunc_int_int)
theorem G_slices_ContainsFunc_int_int_ok : G_slices_ContainsFunc_int_int.ok Tryz.prog := (Gm.add_ok Gm.none_ok ok_slices_IndexFunc_int_int)
theorem gm_slices_ContainsFunc_int_int {r : List Oper} {n : Nat} : splB G_slices_ContainsFunc_int_int r n = true := rfl
theorem gs_slices_ContainsFunc_int_int_78 : G_slices_ContainsFunc_int_int.sp 78 = sp_slices_IndexFunc_int_int ∧ G_slices_ContainsFunc_int_int.lend 78 = lend_slices_IndexFunc_int_int := ⟨rfl, rfl⟩
set_option maxHeartbeats 1000000 in
set_option maxRecDepth 100000 in
theorem runs_slices_ContainsFunc_int_int (l : List Int) (s : Int) : ARuns Tryz.prog 47 [.sl none (.ints .i64 l), .clo 77 [.pv [.int .i64 s] 0]] [] (.bool (l.any (subP s))) [] := by
  refine ARuns_bc G_slices_ContainsFunc_int_int_ok is_slices_ContainsFunc_int_int (by simp) fun hl hlB => ?_
  simp only [kcode_at, kreg_at, bc_seq, bc_ret, bc_region, afin_nil, cvE_some, resL, resV, cv, pack, entryE, inPrm, entryB, Option.getD_some, acall_clo, kcall_nil, selOf, inArgs, inA, inL, okA, outA, outU, deep, deepL, List.map_nil, List.map_cons, List.all_nil, List.all_cons, BEq.rfl, Bool.and_true, List.append_nil, aops_nil, aops_plain, kont_at, aop_move, aop_assign, aop_binOp, SC0, aop_call, evalE, getE, putE, getB, St.put, setsB, AV.ofV, SC.len, List.length_nil, Nat.reduceEqDiff, ↓reduceIte, true_and, and_true, List.nil_append, List.cons_append, aInt_geq, aBin_geq, aBinW_f, isW_geq, lend, Nat.zero_add, BEq.rfl, plainA, un3, sl24, sl62, gs_slices_ContainsFunc_int_int_78, at_slices_IndexFunc_int_int, lend_slices_IndexFunc_int_int, Tryz.f47]
  exact by rw [idxP_any]
set_option maxHeartbeats 1000000 in
set_option maxRecDepth 100000 in
theorem runs_slices_ContainsFunc_int_int_v2 (l : List Int) (s : Int) : ARuns Tryz.prog 47 [.sl none (.ints .i64 l), .clo 48 [.pv [.int .i64 s] 0]] [] (.bool (l.any (supP s))) [] := by
  refine ARuns_bc G_slices_ContainsFunc_int_int_ok is_slices_ContainsFunc_int_int (by simp) fun hl hlB => ?_
  simp only [kcode_at, kreg_at, bc_seq, bc_ret, bc_region, afin_nil, cvE_some, resL, resV, cv, pack, entryE, inPrm, entryB, Option.getD_some, acall_clo, kcall_nil, selOf, inArgs, inA, inL, okA, outA, outU, deep, deepL, List.map_nil, List.map_cons, List.all_nil, List.all_cons, BEq.rfl, Bool.and_true, List.append_nil, aops_nil, aops_plain, kont_at, aop_move, aop_assign, aop_binOp, SC0, aop_call, evalE, getE, putE, getB, St.put, setsB, AV.ofV, SC.len, List.length_nil, Nat.reduceEqDiff, ↓reduceIte, true_and, and_true, List.nil_append, List.cons_append, aInt_geq, aBin_geq, aBinW_f, isW_geq, lend, Nat.zero_add, BEq.rfl, plainA, un3, sl24, sl62, gs_slices_ContainsFunc_int_int_78, at_slices_IndexFunc_int_int_v2, lend_slices_IndexFunc_int_int, Tryz.f47]
  exact by rw [idxP_any]
def lend_slices_ContainsFunc_int_int : List Nat := []
def sp_slices_ContainsFunc_int_int : List AV → List Bx → (AV → List Bx → Prop) → Prop
  | [.sl none (.ints .i64 l), .clo 77 [.pv [.int .i64 s] 0]], [], K => K (.bool (l.any (subP s))) []
  | [.sl none (.ints .i64 l), .clo 48 [.pv [.int .i64 s] 0]], [], K => K (.bool (l.any (supP s))) []
  | _, _, _ => False
theorem at_slices_ContainsFunc_int_int {l : List Int} {s : Int} {K : AV → List Bx → Prop} : sp_slices_ContainsFunc_int_int [.sl none (.ints .i64 l), .clo 77 [.pv [.int .i64 s] 0]] [] K = (K (.bool (l.any (subP s))) []) := id rfl
theorem at_slices_ContainsFunc_int_int_v2 {l : List Int} {s : Int} {K : AV → List Bx → Prop} : sp_slices_ContainsFunc_int_int [.sl none (.ints .i64 l), .clo 48 [.pv [.int .i64 s] 0]] [] K = (K (.bool (l.any (supP s))) []) := id rfl
theorem ok_slices_ContainsFunc_int_int : ∀ args giv K, sp_slices_ContainsFunc_int_int args giv K → ∃ r outs, ARuns Tryz.prog 47 args giv r outs ∧ K r outs := by
  intro args giv K hk
  unfold sp_slices_ContainsFunc_int_int at hk
  split at hk
  · exact ⟨_, _, runs_slices_ContainsFunc_int_int _ _ , hk⟩
  · exact ⟨_, _, runs_slices_ContainsFunc_int_int_v2 _ _ , hk⟩
  · exact hk.elim
theorem is_impl_minimalOf : FnIs Tryz.prog 45 24 [.tmp 2] (Tryz.f45.body.getD .skip) := ⟨⟨Tryz.f45, by kernel_rfl, by kernel_rfl, by kernel_rfl, by kernel_rfl⟩, by kernel_rfl, by kernel_rfl⟩
def G_impl_minimalOf : Gm := (Gm.none.add 47 lend_slices_ContainsFunc_int_int sp_slices_ContainsFunc_int_int)
theorem G_impl_minimalOf_ok : G_impl_minimalOf.ok Tryz.prog := (Gm.add_ok Gm.none_ok ok_slices_ContainsFunc_int_int)
theorem gm_impl_minimalOf {r : List Oper} {n : Nat} : splB G_impl_minimalOf r n = true := rfl
theorem gs_impl_minimalOf_47 : G_impl_minimalOf.sp 47 = sp_slices_ContainsFunc_int_int ∧ G_impl_minimalOf.lend 47 = lend_slices_ContainsFunc_int_int := ⟨rfl, rfl⟩
set_option maxHeartbeats 1000000 in
set_option maxRecDepth 100000 in
theorem runs_impl_minimalOf (xs : List Int) (hp1 : xs.length ≤ 1048576) : ARuns Tryz.prog 45 [.sl none (.ints .i64 xs)] [] (.ref 0 (minL xs).length) [.row 3 (.ints .i64 (minL xs))] := by
  refine ARuns_bcL G_impl_minimalOf_ok is_impl_minimalOf (by simp) fun hl hlB => ?_
  simp only [kcode_at, kreg_at, bc_seq, bc_block, bc_region, entryE, inPrm, entryB, Option.getD_some, aops_nil, aops_plain, kont_at, aop_move, aop_assign, aop_len, evalE, getE, putE, getB, St.put, setsB, AV.ofV, SC.len, List.length_nil, Nat.reduceEqDiff, ↓reduceIte, List.nil_append, List.cons_append, aLen_prm, un24, Tryz.f45]
  refine bc_loopN [(3, 3, .ints .i64 [])] (fun i : Nat => i ≤ xs.length)
    (fun i => ⟨[(0, .prm 0 (.ints .i64 xs)), (3, .ref 0 (minT xs i).length), (7, .prm 0 (.ints .i64 xs)), (8, .int .i64 xs.length), (9, .int .i64 i)], [.row 3 (.ints .i64 (minT xs i))]⟩) (fun i => xs.length - i)
    [0, 3, 7, 8, 9] [0] 0 rfl rfl (by simp [St.conv, St.bf, getE, putE, getB, cv, cvL, cvB, idx, still, pack, lifts, liftOne, liftC, liftK, killB, cellsOfB, setB]; simp [minT]) (by simp) fun i hi => ?_
  simp only [kcode_at, kreg_at, bc_skip, bc_seq, bc_cond, bc_block, bc_exit, bc_ret, bc_region, lkX_cons, acond_tmp, aCase_b, acall_clo, kcall_nil, selOf, inArgs, inA, inL, okA, outA, outU, deep, deepL, AV.bid, List.map_nil, List.map_cons, List.all_nil, List.all_cons, BEq.rfl, Bool.and_true, List.append_nil, aops_nil, aops_plain, kont_at, aop_move, aop_assign, aop_alloc, aop_buildSlice, aop_load, aop_store, aop_binOp, aop_unOp, aop_indexAddr, slTy2, SC0, aop_append, aop_call, evalE, getE, putE, getB, setB, St.put, setsB, AV.ofV, AV.blk, AV.bid, AV.one, SC.len, SC.get, List.length_nil, List.length_cons, Nat.reduceEqDiff, Nat.reduceAdd, ↓reduceIte, true_and, and_true, decide_eq_true_eq, Bool.not_eq_true', Bool.not_eq_false', decide_eq_false_iff_not, Option.isSome, List.nil_append, List.cons_append, aAlloc_one, aInt_add, aBin_add, aInt_lss, aBin_lss, aUn_b, aIdx_prm, aBuildL_some, aBuildS_some, aLoad_1b, aLoad_ep, aStore_1, aApp_some, aAppend_ref, aBinW_f, isW_tmp, isW_addc, Int.reduceLT, aBinW_dF, rng1, idx, cont, still, dies, lend, snocs, SC.snoc, SC.app, List.getD_cons_zero, List.set_cons_zero, Nat.reduceLT, Nat.reduceLeDiff, List.flatMap_nil, List.flatMap_cons, Nat.zero_add, BEq.rfl, aop_makeFunc, plainA, ty3, un3, sl24, sl62, inR64, gs_impl_minimalOf_47, at_slices_ContainsFunc_int_int, lend_slices_ContainsFunc_int_int, Int.toNat_natCast]
  have hml := minT_len (xs := xs) (i := i)
  refine ⟨fun hlt => ⟨by omega, fun ha => ⟨by omega, by omega, klp_of (i + 1) ?_ (by omega) (by omega)⟩, fun ha => ⟨by omega, klp_of (i + 1) ?_ (by omega) (by omega)⟩⟩, fun hge => ?_⟩
  · rw [minT_t (by omega) ha]; simp [St.conv, St.bf, getE, putE, getB, cv, cvL, cvB, idx, still, pack, lifts, liftOne, liftC, liftK, killB, cellsOfB, setB]
  · rw [minT_f (by omega) ha]; simp [St.conv, St.bf, getE, putE, getB, cv, cvL, cvB, idx, still, pack, lifts, liftOne, liftC, liftK, killB, cellsOfB, setB]
  · have : i = xs.length := by omega
    subst this
    rw [minT_all]
    exact afinL_of [] [0] rfl rfl (by simp only [resL, resV, resC, getE, putE, getB, setB, lifts, liftOne, liftC, liftK, killB, cellsOfB, List.length_cons, List.length_nil, List.nil_append, List.cons_append, Nat.reduceAdd, Nat.reduceEqDiff, ↓reduceIte, ty3, ty67, ty120, ty118, ty5, ty2, ty21, ty4, ty9, ty24, ty22, ty53, ty26, ty81]; rfl) (by simp [St.conv, St.bf, getE, putE, getB, cv, cvL, cvB, idx, still, pack, lifts, liftOne, liftC, liftK, killB, cellsOfB, setB]) (by simp [St.conv, St.bf, getE, putE, getB, cv, cvL, cvB, idx, still, pack, lifts, liftOne, liftC, liftK, killB, cellsOfB, setB])
def lend_impl_minimalOf : List Nat := []
def sp_impl_minimalOf : List AV → List Bx → (AV → List Bx → Prop) → Prop
  | [.sl none (.ints .i64 xs)], [], K => (xs.length ≤ 1048576) ∧ K (.ref 0 (minL xs).length) [.row 3 (.ints .i64 (minL xs))]
  | _, _, _ => False
theorem at_impl_minimalOf {xs : List Int} {K : AV → List Bx → Prop} : sp_impl_minimalOf [.sl none (.ints .i64 xs)] [] K = ((xs.length ≤ 1048576) ∧ K (.ref 0 (minL xs).length) [.row 3 (.ints .i64 (minL xs))]) := id rfl
theorem ok_impl_minimalOf : ∀ args giv K, sp_impl_minimalOf args giv K → ∃ r outs, ARuns Tryz.prog 45 args giv r outs ∧ K r outs := by
  intro args giv K hk
  unfold sp_impl_minimalOf at hk
  split at hk
  · obtain ⟨hp1, hk⟩ := hk; exact ⟨_, _, runs_impl_minimalOf _ hp1, hk⟩
  · exact hk.elim
theorem is_impl_MinimalSets : FnIs Tryz.prog 12 14 [ResultVar.cell 2 26, .tmp 3] (Tryz.f12.body.getD .skip) := ⟨⟨Tryz.f12, by kernel_rfl, by kernel_rfl, by kernel_rfl, by kernel_rfl⟩, by kernel_rfl, by kernel_rfl⟩
def G_impl_MinimalSets : Gm := ((Gm.none.add 10 lend_impl_IsFamily sp_impl_IsFamily).add 45 lend_impl_minimalOf sp_impl_minimalOf)
theorem G_impl_MinimalSets_ok : G_impl_MinimalSets.ok Tryz.prog := (Gm.add_ok (Gm.add_ok Gm.none_ok ok_impl_IsFamily) ok_impl_minimalOf)
theorem gm_impl_MinimalSets {r : List Oper} {n : Nat} : splB G_impl_MinimalSets r n = true := rfl
theorem gs_impl_MinimalSets_10 : G_impl_MinimalSets.sp 10 = sp_impl_IsFamily ∧ G_impl_MinimalSets.lend 10 = lend_impl_IsFamily := ⟨rfl, rfl⟩
theorem gs_impl_MinimalSets_45 : G_impl_MinimalSets.sp 45 = sp_impl_minimalOf ∧ G_impl_MinimalSets.lend 45 = lend_impl_minimalOf := ⟨rfl, rfl⟩
set_option maxHeartbeats 1000000 in
set_option maxRecDepth 100000 in
theorem runs_impl_MinimalSets (n : Int) (xs : List Int) (hp1 : xs.length ≤ 1048576) : ARuns Tryz.prog 12 [.agg [.int .i64 n, .sl none (.ints .i64 xs)]] [] (.tup [.agg [.int .i64 (msN n xs), .ref 0 (msL n xs).length], .bool (famB n xs)]) [.row 3 (.ints .i64 (msL n xs))] := by
  refine ARuns_bc G_impl_MinimalSets_ok is_impl_MinimalSets (by simp) fun hl hlB => ?_
  simp only [kcode_at, kreg_at, bc_skip, bc_seq, bc_cond, bc_ret, bc_region, acond_tmp, aCase_b, entryE, inPrm, entryB, Option.getD_some, acall_clo, kcall_nil, selOf, inArgs, inA, inL, okA, okBx, okC, outA, outU, outB, deep, deepL, List.map_nil, List.map_cons, List.all_nil, List.all_cons, BEq.rfl, Bool.and_true, List.append_nil, aops_nil, aops_plain, kont_at, aop_assign, aop_alloc, aop_box, aop_build, aop_load, aop_store, aop_unOp, aop_fieldAddr, SC0, aop_call, evalE, getE, putE, getB, setB, St.put, setsB, AV.ofV, AV.blk, AV.one, SC.len, List.length_nil, List.length_cons, Nat.reduceEqDiff, Nat.reduceAdd, ↓reduceIte, true_and, and_true, Bool.not_eq_true', Bool.not_eq_false', List.nil_append, List.cons_append, aAlloc_flat, aBox_some, aBuild_flat, aUn_b, aField_ptr, aLoad_1b, aLoad_fb, aStore_f, bc_draw, kregD_at, aopsD_nil, aopsD_plain, kontD_at, splW_t, contD_at, splD_undef, splD_int, splD_tt, splD_sl, splD_ref, splD_ptr, splD_agg, addTr_nil, addTr_cons, memQ_nil, memQ_cons, clash_nil, clash_cons, regC_none, regC_nil, regC_cons, regR_nil, regR_cons, mp_nil, lend, AV.cells, fillA, List.getD_cons_zero, List.getD_cons_succ, List.set_cons_zero, List.set_cons_succ, Nat.reduceLT, Nat.zero_add, BEq.rfl, ty3, sl24, ty24, ty26, sl26, gm_impl_MinimalSets, gs_impl_MinimalSets_10, at_impl_IsFamily, lend_impl_IsFamily, gs_impl_MinimalSets_45, at_impl_minimalOf, lend_impl_minimalOf, Tryz.f12]
  refine ⟨fun h => ?_, fun h => ⟨hp1, rfl, ?_⟩⟩
  · rw [(ms_f h).1, (ms_f h).2, h]
    exact afin_ofN [(1001001, 3, .ints .i64 [])] [2] rfl rfl (by simp only [resL, resV, resC, getE, putE, getB, setB, lifts, liftOne, liftC, liftK, killB, cellsOfB, List.length_cons, List.length_nil, List.nil_append, List.cons_append, Nat.reduceAdd, Nat.reduceEqDiff, ↓reduceIte, ty3, ty67, ty120, ty118, ty5, ty2, ty21, ty4, ty9, ty24, ty22, ty53, ty26, ty81]; rfl) (by simp [St.conv, St.bf, getE, putE, getB, cv, cvL, cvB, idx, still, pack, lifts, liftOne, liftC, liftK, killB, cellsOfB, setB]) (by simp [St.conv, St.bf, getE, putE, getB, cv, cvL, cvB, idx, still, pack, lifts, liftOne, liftC, liftK, killB, cellsOfB, setB])
  · rw [(ms_t h).1, (ms_t h).2, h]
    exact afin_of [2] rfl (by simp only [resL, resV, resC, getE, putE, getB, setB, lifts, liftOne, liftC, liftK, killB, cellsOfB, List.length_cons, List.length_nil, List.nil_append, List.cons_append, Nat.reduceAdd, Nat.reduceEqDiff, ↓reduceIte, ty3, ty67, ty120, ty118, ty5, ty2, ty21, ty4, ty9, ty24, ty22, ty53, ty26, ty81]; rfl) (by simp [St.conv, St.bf, getE, putE, getB, cv, cvL, cvB, idx, still, pack, lifts, liftOne, liftC, liftK, killB, cellsOfB, setB]) (by simp [St.conv, St.bf, getE, putE, getB, cv, cvL, cvB, idx, still, pack, lifts, liftOne, liftC, liftK, killB, cellsOfB, setB])
def lend_impl_MinimalSets : List Nat := []
def sp_impl_MinimalSets : List AV → List Bx → (AV → List Bx → Prop) → Prop
  | [.agg [.int .i64 n, .sl none (.ints .i64 xs)]], [], K => (xs.length ≤ 1048576) ∧ K (.tup [.agg [.int .i64 (msN n xs), .ref 0 (msL n xs).length], .bool (famB n xs)]) [.row 3 (.ints .i64 (msL n xs))]
  | _, _, _ => False
theorem at_impl_MinimalSets {n : Int} {xs : List Int} {K : AV → List Bx → Prop} : sp_impl_MinimalSets [.agg [.int .i64 n, .sl none (.ints .i64 xs)]] [] K = ((xs.length ≤ 1048576) ∧ K (.tup [.agg [.int .i64 (msN n xs), .ref 0 (msL n xs).length], .bool (famB n xs)]) [.row 3 (.ints .i64 (msL n xs))]) := id rfl
theorem ok_impl_MinimalSets : ∀ args giv K, sp_impl_MinimalSets args giv K → ∃ r outs, ARuns Tryz.prog 12 args giv r outs ∧ K r outs := by
  intro args giv K hk
  unfold sp_impl_MinimalSets at hk
  split at hk
  · obtain ⟨hp1, hk⟩ := hk; exact ⟨_, _, runs_impl_MinimalSets _ _ hp1, hk⟩
  · exact hk.elim
theorem is_spec_l15Minimal : FnIs Tryz.prog 46 51 [.tmp 2] (Tryz.f46.body.getD .skip) := ⟨⟨Tryz.f46, by kernel_rfl, by kernel_rfl, by kernel_rfl, by kernel_rfl⟩, by kernel_rfl, by kernel_rfl⟩
def G_spec_l15Minimal : Gm := Gm.none
theorem G_spec_l15Minimal_ok : G_spec_l15Minimal.ok Tryz.prog := Gm.none_ok
theorem gm_spec_l15Minimal {r : List Oper} {n : Nat} : splB G_spec_l15Minimal r n = true := rfl
set_option maxHeartbeats 1000000 in
set_option maxRecDepth 100000 in
theorem runs_spec_l15Minimal (xs : List Int) (hp1 : xs.length ≤ 1048576) : ARuns Tryz.prog 46 [.sl none (.ints .i64 xs)] [] (.ref 0 (minF xs xs.length).length) [.row 3 (.ints .i64 (minF xs xs.length))] := by
  refine ARuns_bc G_spec_l15Minimal_ok is_spec_l15Minimal (by simp) fun hl hlB => ?_
  simp only [kcode_at, kreg_at, bc_seq, bc_block, bc_region, entryE, inPrm, entryB, Option.getD_some, AV.bid, List.map_nil, aops_nil, aops_plain, kont_at, aop_assign, aop_buildSlice, evalE, getE, putE, getB, setB, St.put, setsB, AV.ofV, AV.bid, List.length_nil, List.length_cons, Nat.reduceEqDiff, ↓reduceIte, true_and, and_true, List.nil_append, List.cons_append, aBuildL_some, aBuildS_some, rng0, still, dies, snocs, Nat.reduceLeDiff, List.flatMap_nil, Nat.zero_add, sl24, Tryz.f46]
  simp only [lensA, lenA, lenSC] at hl
  refine bc_loop (fun i : Nat => i ≤ xs.length)
    (fun i => ⟨[(0, .prm 0 (.ints .i64 xs)), (3, .ref 0 (minF xs i).length), (4, .int .i64 i)], [.row 3 (.ints .i64 (minF xs i))]⟩) (fun i => xs.length - i)
    [0, 3, 4] [0] 0 rfl (by simp [minF, St.conv, St.bf, getE, putE, getB, cv, cvL, cvB, idx, still]) (by simp) fun i h1 => ?_
  simp only [kcode_at, kreg_at, bc_skip, bc_seq, bc_cond, bc_block, bc_exit, bc_ret, bc_region, lkX_cons, acond_tmp, aCase_b, aops_nil, aops_plain, kont_at, aop_move, aop_assign, aop_binOp, aop_len, evalE, getE, putE, St.put, setsB, AV.ofV, SC.len, List.length_nil, List.length_cons, Nat.reduceEqDiff, ↓reduceIte, true_and, decide_eq_true_eq, decide_eq_false_iff_not, List.nil_append, List.cons_append, aInt_lss, aBin_lss, aLen_prm, aBinW_f, isW_tmp, Nat.zero_add, un3, un24]
  refine ⟨fun hi => ?_, fun hi => ?_⟩
  · refine bc_loop (fun j : Nat => j ≤ xs.length)
      (fun j => ⟨[(0, .prm 0 (.ints .i64 xs)), (3, .ref 0 (minF xs i).length), (4, .int .i64 i), (5, .bool (allN j (freeAt xs i))), (6, .int .i64 j)], [.row 3 (.ints .i64 (minF xs i))]⟩) (fun j => xs.length - j)
      [0, 3, 4, 5, 6] [0] 0 rfl (by simp [St.conv, St.bf, getE, putE, getB, cv, cvL, cvB, idx, still, pack, lifts, liftOne, liftC, liftK, killB, cellsOfB, setB]; rfl) (by simp) fun j h2 => ?_
    simp only [kcode_at, kreg_at, bc_skip, bc_seq, bc_cond, bc_block, bc_exit, bc_region, lkX_cons, acond_tmp, aCase_b, AV.bid, List.map_nil, List.map_cons, List.append_nil, aops_nil, aops_plain, kont_at, aop_move, aop_assign, aop_pick, aop_buildSlice, aop_load, aop_binOp, aop_indexAddr, aop_len, slTy2, aop_append, evalE, getE, putE, getB, setB, St.put, setsB, nth, AV.ofV, AV.blk, AV.bid, SC.len, SC.get, List.length_nil, List.length_cons, Nat.reduceEqDiff, Nat.reduceAdd, ↓reduceIte, true_and, and_true, decide_eq_true_eq, Bool.not_eq_true', Bool.not_eq_false', decide_eq_false_iff_not, Option.isSome, List.nil_append, List.cons_append, aPick_t, aPick_f, aInt_add, aBin_add, aInt_and, aBin_and, aInt_eql, aBin_eql, aInt_neq, aBin_neq, aInt_lss, aBin_lss, aIdx_prm, aLen_prm, aBuildL_some, aBuildS_some, aLoad_ep, aApp_some, aAppend_ref, aBinW_f, isW_tmp, isW_addc, Int.reduceLT, aBinW_dF, bc_draw, kregD_at, aopsD_nil, aopsD_plain, aopsD_guard, kontD_at, splW_t, contD_at, yesD_at, noD_at, splD_bool, splD_int, splD_tt, splD_ff, splD_prm, splD_ep, gD_tt, gD_tf, gD_ft, gD_ff, gD_fs, slotO_some, addTr_nil, regR_nil, rng1, cont, still, dies, snocs, SC.snoc, SC.app, Nat.reduceLeDiff, List.flatMap_nil, List.flatMap_cons, Nat.zero_add, ty3, un3, sl24, un24, inR64, gm_spec_l15Minimal, Int.toNat_natCast]
    have nx : ∀ b, freeAt xs i j = b → allN j (freeAt xs i) = true → allN (j + 1) (freeAt xs i) = b := fun b h h' => by rw [allN_succ, h, h', Bool.true_and]
    refine ⟨fun hj => ⟨fun hf => ⟨fun he => ⟨by omega, ?_⟩, fun he => ⟨by omega, by omega, by omega, fun hb => ⟨by omega, ?_⟩, fun hb => ⟨by omega, ?_⟩⟩⟩, fun hf => ⟨by omega, ?_⟩⟩, fun hj => ?_⟩
    · exact klp_of (j + 1) (by rw [nx true (freeAt_iff.2 (.inl (by omega))) hf]; simp [St.conv, St.bf, getE, putE, getB, cv, cvL, cvB, idx, still, pack, lifts, liftOne, liftC, liftK, killB, cellsOfB, setB]) (by omega) (by omega)
    · exact klp_of (j + 1) (by rw [nx true (freeAt_iff.2 (.inr hb)) hf]; simp [St.conv, St.bf, getE, putE, getB, cv, cvL, cvB, idx, still, pack, lifts, liftOne, liftC, liftK, killB, cellsOfB, setB]) (by omega) (by omega)
    · have e : freeAt xs i j = false := by
        cases hh : freeAt xs i j with
        | false => rfl
        | true => rcases freeAt_iff.1 hh with h | h
                  · omega
                  · exact absurd hb h
      exact klp_of (j + 1) (by rw [nx false e hf]; simp [St.conv, St.bf, getE, putE, getB, cv, cvL, cvB, idx, still, pack, lifts, liftOne, liftC, liftK, killB, cellsOfB, setB]) (by omega) (by omega)
    · exact klp_of (j + 1) (by rw [allN_succ, hf, Bool.false_and]; simp [St.conv, St.bf, getE, putE, getB, cv, cvL, cvB, idx, still, pack, lifts, liftOne, liftC, liftK, killB, cellsOfB, setB]) (by omega) (by omega)
    · have : j = xs.length := by omega
      subst this
      have hl2 := minF_len (xs := xs) (n := i)
      have em : allN xs.length (freeAt xs i) = minAt xs i := rfl
      rw [em]
      refine ⟨fun hm => ⟨by omega, by omega, by omega, ?_⟩, fun hm => ⟨by omega, ?_⟩⟩
      · have e : minF xs (i + 1) = minF xs i ++ [xs.getD i 0] := by rw [minF, if_pos hm]
        exact klp_of (i + 1) (by rw [e]; simp [St.conv, St.bf, getE, putE, getB, cv, cvL, cvB, idx, still, pack, lifts, liftOne, liftC, liftK, killB, cellsOfB, setB]) (by omega) (by omega)
      · have e : minF xs (i + 1) = minF xs i := by rw [minF, if_neg (by rw [hm]; decide)]
        exact klp_of (i + 1) (by rw [e]; simp [St.conv, St.bf, getE, putE, getB, cv, cvL, cvB, idx, still, pack, lifts, liftOne, liftC, liftK, killB, cellsOfB, setB]) (by omega) (by omega)
  · have : i = xs.length := by omega
    subst this
    exact afin_of [0] rfl rfl (by simp [St.conv, St.bf, getE, putE, getB, cv, cvL, cvB, idx, still, pack, lifts, liftOne, liftC, liftK, killB, cellsOfB, setB]) (by simp [St.conv, St.bf, getE, putE, getB, cv, cvL, cvB, idx, still, pack, lifts, liftOne, liftC, liftK, killB, cellsOfB, setB])
def lend_spec_l15Minimal : List Nat := []
def sp_spec_l15Minimal : List AV → List Bx → (AV → List Bx → Prop) → Prop
  | [.sl none (.ints .i64 xs)], [], K => (xs.length ≤ 1048576) ∧ K (.ref 0 (minF xs xs.length).length) [.row 3 (.ints .i64 (minF xs xs.length))]
  | _, _, _ => False
theorem at_spec_l15Minimal {xs : List Int} {K : AV → List Bx → Prop} : sp_spec_l15Minimal [.sl none (.ints .i64 xs)] [] K = ((xs.length ≤ 1048576) ∧ K (.ref 0 (minF xs xs.length).length) [.row 3 (.ints .i64 (minF xs xs.length))]) := id rfl
theorem ok_spec_l15Minimal : ∀ args giv K, sp_spec_l15Minimal args giv K → ∃ r outs, ARuns Tryz.prog 46 args giv r outs ∧ K r outs := by
  intro args giv K hk
  unfold sp_spec_l15Minimal at hk
  split at hk
  · obtain ⟨hp1, hk⟩ := hk; exact ⟨_, _, runs_spec_l15Minimal _ hp1, hk⟩
  · exact hk.elim
theorem is_spec_MinimalSets : FnIs Tryz.prog 13 14 [ResultVar.cell 2 26, .tmp 3] (Tryz.f13.body.getD .skip) := ⟨⟨Tryz.f13, by kernel_rfl, by kernel_rfl, by kernel_rfl, by kernel_rfl⟩, by kernel_rfl, by kernel_rfl⟩
def G_spec_MinimalSets : Gm := ((Gm.none.add 9 lend_spec_IsFamily sp_spec_IsFamily).add 46 lend_spec_l15Minimal sp_spec_l15Minimal)
theorem G_spec_MinimalSets_ok : G_spec_MinimalSets.ok Tryz.prog := (Gm.add_ok (Gm.add_ok Gm.none_ok ok_spec_IsFamily) ok_spec_l15Minimal)
theorem gm_spec_MinimalSets {r : List Oper} {n : Nat} : splB G_spec_MinimalSets r n = true := rfl
theorem gs_spec_MinimalSets_9 : G_spec_MinimalSets.sp 9 = sp_spec_IsFamily ∧ G_spec_MinimalSets.lend 9 = lend_spec_IsFamily := ⟨rfl, rfl⟩
theorem gs_spec_MinimalSets_46 : G_spec_MinimalSets.sp 46 = sp_spec_l15Minimal ∧ G_spec_MinimalSets.lend 46 = lend_spec_l15Minimal := ⟨rfl, rfl⟩
set_option maxHeartbeats 1000000 in
set_option maxRecDepth 100000 in
theorem runs_spec_MinimalSets (n : Int) (xs : List Int) (hp1 : xs.length ≤ 1048576) : ARuns Tryz.prog 13 [.agg [.int .i64 n, .sl none (.ints .i64 xs)]] [] (.tup [.agg [.int .i64 (msN n xs), .ref 0 (msL n xs).length], .bool (famB n xs)]) [.row 3 (.ints .i64 (msL n xs))] := by
  refine ARuns_bc G_spec_MinimalSets_ok is_spec_MinimalSets (by simp) fun hl hlB => ?_
  simp only [kcode_at, kreg_at, bc_skip, bc_seq, bc_cond, bc_ret, bc_region, acond_tmp, aCase_b, entryE, inPrm, entryB, Option.getD_some, acall_clo, kcall_nil, selOf, inArgs, inA, inL, okA, okBx, okC, outA, outU, outB, deep, deepL, List.map_nil, List.map_cons, List.all_nil, List.all_cons, BEq.rfl, Bool.and_true, List.append_nil, aops_nil, aops_plain, kont_at, aop_assign, aop_alloc, aop_box, aop_build, aop_load, aop_store, aop_unOp, aop_fieldAddr, SC0, aop_call, evalE, getE, putE, getB, setB, St.put, setsB, AV.ofV, AV.blk, AV.one, SC.len, List.length_nil, List.length_cons, Nat.reduceEqDiff, Nat.reduceAdd, ↓reduceIte, true_and, and_true, Bool.not_eq_true', Bool.not_eq_false', List.nil_append, List.cons_append, aAlloc_flat, aBox_some, aBuild_flat, aUn_b, aField_ptr, aLoad_1b, aLoad_fb, aStore_f, bc_draw, kregD_at, aopsD_nil, aopsD_plain, kontD_at, splW_t, contD_at, splD_undef, splD_int, splD_tt, splD_sl, splD_ref, splD_ptr, splD_agg, addTr_nil, addTr_cons, memQ_nil, memQ_cons, clash_nil, clash_cons, regC_none, regC_nil, regC_cons, regR_nil, regR_cons, mp_nil, lend, AV.cells, fillA, List.getD_cons_zero, List.getD_cons_succ, List.set_cons_zero, List.set_cons_succ, Nat.reduceLT, Nat.zero_add, BEq.rfl, ty3, sl24, ty24, ty26, sl26, gm_spec_MinimalSets, gs_spec_MinimalSets_9, at_spec_IsFamily, lend_spec_IsFamily, gs_spec_MinimalSets_46, at_spec_l15Minimal, lend_spec_l15Minimal, Tryz.f13]
  refine ⟨fun h => ?_, fun h => ⟨hp1, rfl, ?_⟩⟩
  · rw [(ms_f h).1, (ms_f h).2, h]
    exact afin_ofN [(1001001, 3, .ints .i64 [])] [2] rfl rfl (by simp only [resL, resV, resC, getE, putE, getB, setB, lifts, liftOne, liftC, liftK, killB, cellsOfB, List.length_cons, List.length_nil, List.nil_append, List.cons_append, Nat.reduceAdd, Nat.reduceEqDiff, ↓reduceIte, ty3, ty67, ty120, ty118, ty5, ty2, ty21, ty4, ty9, ty24, ty22, ty53, ty26, ty81]; rfl) (by simp [St.conv, St.bf, getE, putE, getB, cv, cvL, cvB, idx, still, pack, lifts, liftOne, liftC, liftK, killB, cellsOfB, setB]) (by simp [St.conv, St.bf, getE, putE, getB, cv, cvL, cvB, idx, still, pack, lifts, liftOne, liftC, liftK, killB, cellsOfB, setB])
  · rw [(ms_t h).1, (ms_t h).2, h, minF_L (asc_fam h) (fam_smallL h)]
    exact afin_of [2] rfl (by simp only [resL, resV, resC, getE, putE, getB, setB, lifts, liftOne, liftC, liftK, killB, cellsOfB, List.length_cons, List.length_nil, List.nil_append, List.cons_append, Nat.reduceAdd, Nat.reduceEqDiff, ↓reduceIte, ty3, ty67, ty120, ty118, ty5, ty2, ty21, ty4, ty9, ty24, ty22, ty53, ty26, ty81]; rfl) (by simp [St.conv, St.bf, getE, putE, getB, cv, cvL, cvB, idx, still, pack, lifts, liftOne, liftC, liftK, killB, cellsOfB, setB]) (by simp [St.conv, St.bf, getE, putE, getB, cv, cvL, cvB, idx, still, pack, lifts, liftOne, liftC, liftK, killB, cellsOfB, setB])
def lend_spec_MinimalSets : List Nat := []
def sp_spec_MinimalSets : List AV → List Bx → (AV → List Bx → Prop) → Prop
  | [.agg [.int .i64 n, .sl none (.ints .i64 xs)]], [], K => (xs.length ≤ 1048576) ∧ K (.tup [.agg [.int .i64 (msN n xs), .ref 0 (msL n xs).length], .bool (famB n xs)]) [.row 3 (.ints .i64 (msL n xs))]
  | _, _, _ => False
theorem at_spec_MinimalSets {n : Int} {xs : List Int} {K : AV → List Bx → Prop} : sp_spec_MinimalSets [.agg [.int .i64 n, .sl none (.ints .i64 xs)]] [] K = ((xs.length ≤ 1048576) ∧ K (.tup [.agg [.int .i64 (msN n xs), .ref 0 (msL n xs).length], .bool (famB n xs)]) [.row 3 (.ints .i64 (msL n xs))]) := id rfl
theorem ok_spec_MinimalSets : ∀ args giv K, sp_spec_MinimalSets args giv K → ∃ r outs, ARuns Tryz.prog 13 args giv r outs ∧ K r outs := by
  intro args giv K hk
  unfold sp_spec_MinimalSets at hk
  split at hk
  · obtain ⟨hp1, hk⟩ := hk; exact ⟨_, _, runs_spec_MinimalSets _ _ hp1, hk⟩
  · exact hk.elim
theorem is_impl_MaximalSets : FnIs Tryz.prog 14 36 [ResultVar.cell 2 26, .tmp 3] (Tryz.f14.body.getD .skip) := ⟨⟨Tryz.f14, by kernel_rfl, by kernel_rfl, by kernel_rfl, by kernel_rfl⟩, by kernel_rfl, by kernel_rfl⟩
def G_impl_MaximalSets : Gm := ((Gm.none.add 10 lend_impl_IsFamily sp_impl_IsFamily).add 47 lend_slices_ContainsFunc_int_int sp_slices_ContainsFunc_int_int)
theorem G_impl_MaximalSets_ok : G_impl_MaximalSets.ok Tryz.prog := (Gm.add_ok (Gm.add_ok Gm.none_ok ok_impl_IsFamily) ok_slices_ContainsFunc_int_int)
theorem gm_impl_MaximalSets {r : List Oper} {n : Nat} : splB G_impl_MaximalSets r n = true := rfl
theorem gs_impl_MaximalSets_10 : G_impl_MaximalSets.sp 10 = sp_impl_IsFamily ∧ G_impl_MaximalSets.lend 10 = lend_impl_IsFamily := ⟨rfl, rfl⟩
theorem gs_impl_MaximalSets_47 : G_impl_MaximalSets.sp 47 = sp_slices_ContainsFunc_int_int ∧ G_impl_MaximalSets.lend 47 = lend_slices_ContainsFunc_int_int := ⟨rfl, rfl⟩
set_option maxHeartbeats 1000000 in
set_option maxRecDepth 100000 in
theorem runs_impl_MaximalSets (n : Int) (xs : List Int) (hp1 : xs.length ≤ 1048576) : ARuns Tryz.prog 14 [.agg [.int .i64 n, .sl none (.ints .i64 xs)]] [] (.tup [.agg [.int .i64 (xsN n xs), .ref 0 (xsL n xs).length], .bool (famB n xs)]) [.row 3 (.ints .i64 (xsL n xs))] := by
  refine ARuns_bc G_impl_MaximalSets_ok is_impl_MaximalSets (by simp) fun hl hlB => ?_
  simp only [kcode_at, kreg_at, bc_skip, bc_seq, bc_cond, bc_block, bc_ret, bc_region, acond_tmp, aCase_b, entryE, inPrm, entryB, Option.getD_some, acall_clo, kcall_nil, selOf, inArgs, inA, inL, okA, outA, outU, deep, deepL, List.map_nil, List.map_cons, List.all_nil, List.all_cons, BEq.rfl, Bool.and_true, List.append_nil, aops_nil, aops_plain, kont_at, aop_move, aop_assign, aop_alloc, aop_box, aop_build, aop_load, aop_store, aop_unOp, aop_fieldAddr, aop_len, SC0, aop_call, evalE, getE, putE, getB, setB, St.put, setsB, AV.ofV, AV.blk, AV.one, SC.len, List.length_nil, List.length_cons, Nat.reduceEqDiff, Nat.reduceAdd, ↓reduceIte, true_and, and_true, decide_eq_true_eq, Bool.not_eq_true', Bool.not_eq_false', List.nil_append, List.cons_append, aAlloc_flat, aBox_some, aBuild_flat, aUn_b, aField_ptr, aLen_sl, aLoad_1b, aLoad_fb, aStore_f, lend, AV.cells, fillA, List.getD_cons_zero, List.getD_cons_succ, List.set_cons_zero, Nat.reduceLT, Nat.zero_add, BEq.rfl, ty3, ty24, un24, ty26, sl26, gs_impl_MaximalSets_10, at_impl_IsFamily, lend_impl_IsFamily, Tryz.f14]
  refine ⟨fun h => ?_, fun h => ?_⟩
  · rw [(xs_f h).1, (xs_f h).2, h]
    exact afin_ofN [(1001001, 3, .ints .i64 [])] [2] rfl rfl (by simp only [resL, resV, resC, getE, putE, getB, setB, lifts, liftOne, liftC, liftK, killB, cellsOfB, List.length_cons, List.length_nil, List.nil_append, List.cons_append, Nat.reduceAdd, Nat.reduceEqDiff, ↓reduceIte, ty3, ty67, ty120, ty118, ty5, ty2, ty21, ty4, ty9, ty24, ty22, ty53, ty26, ty81]; rfl) (by simp [St.conv, St.bf, getE, putE, getB, cv, cvL, cvB, idx, still, pack, lifts, liftOne, liftC, liftK, killB, cellsOfB, setB]) (by simp [St.conv, St.bf, getE, putE, getB, cv, cvL, cvB, idx, still, pack, lifts, liftOne, liftC, liftK, killB, cellsOfB, setB])
  rw [(xs_t h).1, (xs_t h).2, h]
  refine bc_loopN [(1002001, 3, .ints .i64 [])] (fun i : Nat => i ≤ xs.length)
    (fun i => ⟨[(1, .ptr 0 0), (2, .ptr 1 0), (4, .ptr 2 0), (16, .sl none (.ints .i64 xs)), (17, .int .i64 xs.length), (18, .int .i64 i)],
      [.box [.int .i64 n, .sl none (.ints .i64 xs)], .box [.int .i64 0, .nil], .box [.int .i64 n, .ref 3 (mxT xs i).length], .row 3 (.ints .i64 (mxT xs i))]⟩) (fun i => xs.length - i)
    [1, 2, 4, 16, 17, 18] [0, 1, 2, 3] 0 rfl rfl (by simp [St.conv, St.bf, getE, putE, getB, cv, cvL, cvB, idx, still, pack, lifts, liftOne, liftC, liftK, killB, cellsOfB, setB]; simp [mxT]) (by omega) fun i hi => ?_
  simp only [kcode_at, kreg_at, bc_skip, bc_seq, bc_cond, bc_block, bc_exit, bc_ret, bc_region, lkX_cons, acond_tmp, aCase_b, acall_clo, kcall_nil, selOf, inArgs, inA, inL, okA, outA, outU, deep, deepL, AV.bid, List.map_nil, List.map_cons, List.all_nil, List.all_cons, BEq.rfl, Bool.and_true, List.append_nil, aops_nil, aops_plain, kont_at, aop_move, aop_assign, aop_alloc, aop_buildSlice, aop_load, aop_store, aop_binOp, aop_unOp, aop_fieldAddr, aop_indexAddr, slTy2, SC0, aop_append, aop_call, evalE, getE, putE, getB, setB, St.put, setsB, AV.ofV, AV.blk, AV.bid, AV.one, SC.len, SC.get, List.length_nil, List.length_cons, Nat.reduceEqDiff, Nat.reduceAdd, ↓reduceIte, true_and, and_true, decide_eq_true_eq, Bool.not_eq_true', Bool.not_eq_false', decide_eq_false_iff_not, Option.isSome, List.nil_append, List.cons_append, aAlloc_one, aInt_add, aBin_add, aInt_lss, aBin_lss, aUn_b, aField_ptr, aIdx_sl, aBuildL_some, aBuildS_some, aLoad_1b, aLoad_fb, aLoad_ep, aStore_1, aStore_f, aApp_some, aAppend_ref, aBinW_f, isW_tmp, isW_addc, Int.reduceLT, aBinW_dF, rng1, idx, cont, still, dies, lend, snocs, SC.snoc, SC.app, List.getD_cons_zero, List.getD_cons_succ, List.set_cons_zero, List.set_cons_succ, Nat.reduceLT, Nat.reduceLeDiff, List.flatMap_nil, List.flatMap_cons, Nat.zero_add, BEq.rfl, aop_makeFunc, plainA, ty3, un3, sl24, ty24, sl62, ty26, inR64, gs_impl_MaximalSets_47, at_slices_ContainsFunc_int_int_v2, lend_slices_ContainsFunc_int_int, Int.toNat_natCast]
  have hml := @mxT_len xs i
  refine ⟨fun h1 => ?_, fun h1 => ?_⟩
  · refine ⟨by omega, fun ha => ⟨by omega, by omega, klp_of (i + 1) ?_ (by omega) (by omega)⟩, fun ha => ⟨by omega, klp_of (i + 1) ?_ (by omega) (by omega)⟩⟩
    · rw [mxT_t (by omega) ha, List.length_append, List.length_singleton]; simp [St.conv, St.bf, getE, putE, getB, cv, cvL, cvB, idx, still, pack, lifts, liftOne, liftC, liftK, killB, cellsOfB, setB]
    · rw [mxT_f (by omega) ha]; simp [St.conv, St.bf, getE, putE, getB, cv, cvL, cvB, idx, still, pack, lifts, liftOne, liftC, liftK, killB, cellsOfB, setB]
  · obtain rfl : i = xs.length := by omega
    rw [mxT_all]
    exact afin_of [3] rfl (by simp only [resL, resV, resC, getE, putE, getB, setB, lifts, liftOne, liftC, liftK, killB, cellsOfB, List.length_cons, List.length_nil, List.nil_append, List.cons_append, Nat.reduceAdd, Nat.reduceEqDiff, ↓reduceIte, ty3, ty67, ty120, ty118, ty5, ty2, ty21, ty4, ty9, ty24, ty22, ty53, ty26, ty81]; rfl) (by simp [St.conv, St.bf, getE, putE, getB, cv, cvL, cvB, idx, still, pack, lifts, liftOne, liftC, liftK, killB, cellsOfB, setB]) (by simp [St.conv, St.bf, getE, putE, getB, cv, cvL, cvB, idx, still, pack, lifts, liftOne, liftC, liftK, killB, cellsOfB, setB])
def lend_impl_MaximalSets : List Nat := []
def sp_impl_MaximalSets : List AV → List Bx → (AV → List Bx → Prop) → Prop
  | [.agg [.int .i64 n, .sl none (.ints .i64 xs)]], [], K => (xs.length ≤ 1048576) ∧ K (.tup [.agg [.int .i64 (xsN n xs), .ref 0 (xsL n xs).length], .bool (famB n xs)]) [.row 3 (.ints .i64 (xsL n xs))]
  | _, _, _ => False
theorem at_impl_MaximalSets {n : Int} {xs : List Int} {K : AV → List Bx → Prop} : sp_impl_MaximalSets [.agg [.int .i64 n, .sl none (.ints .i64 xs)]] [] K = ((xs.length ≤ 1048576) ∧ K (.tup [.agg [.int .i64 (xsN n xs), .ref 0 (xsL n xs).length], .bool (famB n xs)]) [.row 3 (.ints .i64 (xsL n xs))]) := id rfl
theorem ok_impl_MaximalSets : ∀ args giv K, sp_impl_MaximalSets args giv K → ∃ r outs, ARuns Tryz.prog 14 args giv r outs ∧ K r outs := by
  intro args giv K hk
  unfold sp_impl_MaximalSets at hk
  split at hk
  · obtain ⟨hp1, hk⟩ := hk; exact ⟨_, _, runs_impl_MaximalSets _ _ hp1, hk⟩
  · exact hk.elim
theorem is_spec_MaximalSets : FnIs Tryz.prog 15 65 [ResultVar.cell 2 26, .tmp 3] (Tryz.f15.body.getD .skip) := ⟨⟨Tryz.f15, by kernel_rfl, by kernel_rfl, by kernel_rfl, by kernel_rfl⟩, by kernel_rfl, by kernel_rfl⟩
def G_spec_MaximalSets : Gm := (Gm.none.add 9 lend_spec_IsFamily sp_spec_IsFamily)
theorem G_spec_MaximalSets_ok : G_spec_MaximalSets.ok Tryz.prog := (Gm.add_ok Gm.none_ok ok_spec_IsFamily)
theorem gm_spec_MaximalSets {r : List Oper} {n : Nat} : splB G_spec_MaximalSets r n = true := rfl
theorem gs_spec_MaximalSets_9 : G_spec_MaximalSets.sp 9 = sp_spec_IsFamily ∧ G_spec_MaximalSets.lend 9 = lend_spec_IsFamily := ⟨rfl, rfl⟩
set_option maxHeartbeats 1000000 in
set_option maxRecDepth 100000 in
theorem runs_spec_MaximalSets (n : Int) (xs : List Int) (hp1 : xs.length ≤ 1048576) : ARuns Tryz.prog 15 [.agg [.int .i64 n, .sl none (.ints .i64 xs)]] [] (.tup [.agg [.int .i64 (xsN n xs), .ref 0 (xrL n xs).length], .bool (famB n xs)]) [.row 3 (.ints .i64 (xrL n xs))] := by
  refine ARuns_bc G_spec_MaximalSets_ok is_spec_MaximalSets (by simp) fun hl hlB => ?_
  simp only [kcode_at, kreg_at, bc_skip, bc_seq, bc_cond, bc_block, bc_ret, bc_region, acond_tmp, aCase_b, entryE, inPrm, entryB, Option.getD_some, acall_clo, kcall_nil, selOf, inArgs, inA, inL, okA, outA, outU, deep, deepL, AV.bid, List.map_nil, List.map_cons, List.all_nil, List.all_cons, BEq.rfl, Bool.and_true, List.append_nil, aops_nil, aops_plain, kont_at, aop_assign, aop_alloc, aop_box, aop_build, aop_buildSlice, aop_load, aop_store, aop_unOp, SC0, aop_call, evalE, getE, putE, getB, setB, St.put, setsB, AV.ofV, AV.blk, AV.bid, AV.one, SC.len, List.length_nil, List.length_cons, Nat.reduceEqDiff, Nat.reduceAdd, ↓reduceIte, true_and, and_true, Bool.not_eq_true', Bool.not_eq_false', List.nil_append, List.cons_append, aAlloc_flat, aBox_some, aBuild_flat, aUn_b, aBuildL_some, aBuildS_some, aLoad_fb, aStore_f, rng0, still, dies, lend, snocs, AV.cells, fillA, Nat.reduceLeDiff, List.flatMap_nil, Nat.zero_add, BEq.rfl, sl24, ty26, sl26, gs_spec_MaximalSets_9, at_spec_IsFamily, lend_spec_IsFamily, Tryz.f15]
  refine ⟨fun h => ?_, fun h => ?_⟩
  · rw [(xs_f h).1, (xr_f h), h]
    exact afin_ofN [(1001001, 3, .ints .i64 [])] [2] rfl rfl (by simp only [resL, resV, resC, getE, putE, getB, setB, lifts, liftOne, liftC, liftK, killB, cellsOfB, List.length_cons, List.length_nil, List.nil_append, List.cons_append, Nat.reduceAdd, Nat.reduceEqDiff, ↓reduceIte, ty3, ty67, ty120, ty118, ty5, ty2, ty21, ty4, ty9, ty24, ty22, ty53, ty26, ty81]; rfl) (by simp [St.conv, St.bf, getE, putE, getB, cv, cvL, cvB, idx, still, pack, lifts, liftOne, liftC, liftK, killB, cellsOfB, setB]) (by simp [St.conv, St.bf, getE, putE, getB, cv, cvL, cvB, idx, still, pack, lifts, liftOne, liftC, liftK, killB, cellsOfB, setB])
  rw [(xs_t h).1, (xr_t h), h]
  refine bc_loop (fun i : Nat => i ≤ xs.length)
    (fun i => ⟨[(1, .ptr 0 0), (2, .ptr 1 0), (4, .ref 2 (maxF xs i).length), (5, .int .i64 i)], [.box [.int .i64 n, .sl none (.ints .i64 xs)], .box [.int .i64 0, .nil], .row 3 (.ints .i64 (maxF xs i))]⟩) (fun i => xs.length - i)
    [1, 2, 4, 5] [0, 1, 2] 0 rfl (by simp [St.conv, St.bf, getE, putE, getB, cv, cvL, cvB, idx, still, pack, lifts, liftOne, liftC, liftK, killB, cellsOfB, setB]; simp [maxF]) (by simp) fun i h1 => ?_
  simp only [kcode_at, kreg_at, bc_skip, bc_seq, bc_cond, bc_block, bc_exit, bc_ret, bc_region, lkX_cons, acond_tmp, aCase_b, List.map_nil, List.map_cons, List.all_nil, List.all_cons, Bool.and_true, aops_nil, aops_plain, kont_at, aop_move, aop_assign, aop_build, aop_load, aop_store, aop_binOp, aop_fieldAddr, aop_len, evalE, getE, putE, getB, setB, St.put, setsB, AV.ofV, AV.blk, AV.one, SC.len, List.length_nil, List.length_cons, Nat.reduceEqDiff, Nat.reduceAdd, ↓reduceIte, true_and, and_true, decide_eq_true_eq, decide_eq_false_iff_not, List.nil_append, List.cons_append, aBuild_flat, aInt_lss, aBin_lss, aField_ptr, aLen_sl, aLoad_1b, aStore_f, aBinW_f, isW_tmp, fillA, List.getD_cons_zero, List.getD_cons_succ, List.set_cons_zero, List.set_cons_succ, Nat.reduceLT, Nat.zero_add, ty3, un3, ty24, un24, ty26]
  refine ⟨fun hi => ?_, fun hi => ?_⟩
  · refine bc_loop (fun j : Nat => j ≤ xs.length)
      (fun j => ⟨[(1, .ptr 0 0), (2, .ptr 1 0), (4, .ref 2 (maxF xs i).length), (5, .int .i64 i), (6, .bool (allN j (freeX xs i))), (7, .int .i64 j)], [.box [.int .i64 n, .sl none (.ints .i64 xs)], .box [.int .i64 0, .nil], .row 3 (.ints .i64 (maxF xs i))]⟩) (fun j => xs.length - j)
      [1, 2, 4, 5, 6, 7] [0, 1, 2] 0 rfl (by simp [St.conv, St.bf, getE, putE, getB, cv, cvL, cvB, idx, still, pack, lifts, liftOne, liftC, liftK, killB, cellsOfB, setB]; rfl) (by simp) fun j h2 => ?_
    simp only [kcode_at, kreg_at, bc_skip, bc_seq, bc_cond, bc_block, bc_exit, bc_region, lkX_cons, acond_tmp, aCase_b, AV.bid, List.map_nil, List.map_cons, List.append_nil, aops_nil, aops_plain, kont_at, aop_move, aop_assign, aop_pick, aop_buildSlice, aop_load, aop_binOp, aop_fieldAddr, aop_indexAddr, aop_len, slTy2, aop_append, evalE, getE, putE, getB, setB, St.put, setsB, nth, AV.ofV, AV.blk, AV.bid, SC.len, SC.get, List.length_nil, List.length_cons, Nat.reduceEqDiff, Nat.reduceAdd, ↓reduceIte, true_and, and_true, decide_eq_true_eq, Bool.not_eq_true', Bool.not_eq_false', decide_eq_false_iff_not, Option.isSome, List.nil_append, List.cons_append, aPick_t, aPick_f, aInt_add, aBin_add, aInt_and, aBin_and, aInt_eql, aBin_eql, aInt_neq, aBin_neq, aInt_lss, aBin_lss, aField_ptr, aIdx_sl, aLen_sl, aBuildL_some, aBuildS_some, aLoad_1b, aLoad_ep, aApp_some, aAppend_ref, aBinW_f, isW_tmp, isW_addc, Int.reduceLT, aBinW_dF, bc_draw, kregD_at, aopsD_nil, aopsD_plain, aopsD_guard, kontD_at, splW_t, contD_at, yesD_at, noD_at, splD_bool, splD_int, splD_tt, splD_ff, splD_sl, splD_ptr, splD_ep, gD_tt, gD_tf, gD_ft, gD_ff, gD_fs, slotO_some, addTr_nil, addTr_cons, regC_none, regR_nil, regR_cons, rng1, cont, still, dies, snocs, SC.snoc, SC.app, List.getD_cons_zero, List.getD_cons_succ, Nat.reduceLT, Nat.reduceLeDiff, List.flatMap_nil, List.flatMap_cons, Nat.zero_add, ty3, un3, sl24, ty24, un24, ty26, inR64, gm_spec_MaximalSets, Int.toNat_natCast]
    have nx : ∀ b, freeX xs i j = b → allN j (freeX xs i) = true → allN (j + 1) (freeX xs i) = b := fun b h h' => by rw [allN_succ, h, h', Bool.true_and]
    refine ⟨fun hj => ⟨fun hf => ⟨fun he => ⟨by omega, ?_⟩, fun he => ⟨by omega, by omega, by omega, fun hb => ⟨by omega, ?_⟩, fun hb => ⟨by omega, ?_⟩⟩⟩, fun hf => ⟨by omega, ?_⟩⟩, fun hj => ?_⟩
    · exact klp_of (j + 1) (by rw [nx true (freeX_iff.2 (.inl (by omega))) hf]; simp [St.conv, St.bf, getE, putE, getB, cv, cvL, cvB, idx, still, pack, lifts, liftOne, liftC, liftK, killB, cellsOfB, setB]) (by omega) (by omega)
    · exact klp_of (j + 1) (by rw [nx true (freeX_iff.2 (.inr hb)) hf]; simp [St.conv, St.bf, getE, putE, getB, cv, cvL, cvB, idx, still, pack, lifts, liftOne, liftC, liftK, killB, cellsOfB, setB]) (by omega) (by omega)
    · have e : freeX xs i j = false := by
        cases hh : freeX xs i j with
        | false => rfl
        | true => rcases freeX_iff.1 hh with h | h
                  · omega
                  · exact absurd hb h
      exact klp_of (j + 1) (by rw [nx false e hf]; simp [St.conv, St.bf, getE, putE, getB, cv, cvL, cvB, idx, still, pack, lifts, liftOne, liftC, liftK, killB, cellsOfB, setB]) (by omega) (by omega)
    · exact klp_of (j + 1) (by rw [allN_succ, hf, Bool.false_and]; simp [St.conv, St.bf, getE, putE, getB, cv, cvL, cvB, idx, still, pack, lifts, liftOne, liftC, liftK, killB, cellsOfB, setB]) (by omega) (by omega)
    · have : j = xs.length := by omega
      subst this
      have hl2 := maxF_len (xs := xs) (n := i)
      have em : allN xs.length (freeX xs i) = maxAt xs i := rfl
      rw [em]
      refine ⟨fun hm => ⟨by omega, by omega, by omega, ?_⟩, fun hm => ⟨by omega, ?_⟩⟩
      · have e : maxF xs (i + 1) = maxF xs i ++ [xs.getD i 0] := by rw [maxF, if_pos hm]
        exact klp_of (i + 1) (by rw [e, List.length_append, List.length_singleton]; simp [St.conv, St.bf, getE, putE, getB, cv, cvL, cvB, idx, still, pack, lifts, liftOne, liftC, liftK, killB, cellsOfB, setB]) (by omega) (by omega)
      · have e : maxF xs (i + 1) = maxF xs i := by rw [maxF, if_neg (by rw [hm]; decide)]
        exact klp_of (i + 1) (by rw [e]; simp [St.conv, St.bf, getE, putE, getB, cv, cvL, cvB, idx, still, pack, lifts, liftOne, liftC, liftK, killB, cellsOfB, setB]) (by omega) (by omega)
  · have : i = xs.length := by omega
    subst this
    exact ⟨by simp, afin_of [2] rfl (by simp only [resL, resV, resC, getE, putE, getB, setB, lifts, liftOne, liftC, liftK, killB, cellsOfB, List.length_cons, List.length_nil, List.nil_append, List.cons_append, Nat.reduceAdd, Nat.reduceEqDiff, ↓reduceIte, ty3, ty67, ty120, ty118, ty5, ty2, ty21, ty4, ty9, ty24, ty22, ty53, ty26, ty81]; rfl) (by simp [St.conv, St.bf, getE, putE, getB, cv, cvL, cvB, idx, still, pack, lifts, liftOne, liftC, liftK, killB, cellsOfB, setB]) (by simp [St.conv, St.bf, getE, putE, getB, cv, cvL, cvB, idx, still, pack, lifts, liftOne, liftC, liftK, killB, cellsOfB, setB])⟩
def lend_spec_MaximalSets : List Nat := []
def sp_spec_MaximalSets : List AV → List Bx → (AV → List Bx → Prop) → Prop
  | [.agg [.int .i64 n, .sl none (.ints .i64 xs)]], [], K => (xs.length ≤ 1048576) ∧ K (.tup [.agg [.int .i64 (xsN n xs), .ref 0 (xrL n xs).length], .bool (famB n xs)]) [.row 3 (.ints .i64 (xrL n xs))]
  | _, _, _ => False
theorem at_spec_MaximalSets {n : Int} {xs : List Int} {K : AV → List Bx → Prop} : sp_spec_MaximalSets [.agg [.int .i64 n, .sl none (.ints .i64 xs)]] [] K = ((xs.length ≤ 1048576) ∧ K (.tup [.agg [.int .i64 (xsN n xs), .ref 0 (xrL n xs).length], .bool (famB n xs)]) [.row 3 (.ints .i64 (xrL n xs))]) := id rfl
theorem ok_spec_MaximalSets : ∀ args giv K, sp_spec_MaximalSets args giv K → ∃ r outs, ARuns Tryz.prog 15 args giv r outs ∧ K r outs := by
  intro args giv K hk
  unfold sp_spec_MaximalSets at hk
  split at hk
  · obtain ⟨hp1, hk⟩ := hk; exact ⟨_, _, runs_spec_MaximalSets _ _ hp1, hk⟩
  · exact hk.elim
theorem is_slices_BinarySearch_int_int : FnIs Tryz.prog 79 54 [.tmp 4, .tmp 5] (Tryz.f79.body.getD .skip) := ⟨⟨Tryz.f79, by kernel_rfl, by kernel_rfl, by kernel_rfl, by kernel_rfl⟩, by kernel_rfl, by kernel_rfl⟩
def G_slices_BinarySearch_int_int : Gm := Gm.none
theorem G_slices_BinarySearch_int_int_ok : G_slices_BinarySearch_int_int.ok Tryz.prog := Gm.none_ok
theorem gm_slices_BinarySearch_int_int {r : List Oper} {n : Nat} : splB G_slices_BinarySearch_int_int r n = true := rfl
set_option maxHeartbeats 1000000 in
set_option maxRecDepth 100000 in
theorem runs_slices_BinarySearch_int_int (xs : List Int) (x : Int) (hp1 : xs.Pairwise (· ≤ ·)) (hp2 : xs.length < 4611686018427387904) : ARuns Tryz.prog 79 [.sl none (.ints .i64 xs), .int .i64 x] [] (.tup [.int .i64 (xs.countP (· < x) : Nat), .bool (xs.contains x)]) [] := by
  exact ARuns_read is_slices_BinarySearch_int_int.callable (v := .tuple #[.int .i64 (xs.countP (· < x) : Nat), .bool (xs.contains x)]) (fun w M F g args => by simp only [Rel]; exact ⟨[_, _], rfl, by simp [RelL, Rel]⟩)
    (fun b off c w h => by
      have h2 := Tryz.slices_BinarySearch_int b off xs.length c xs x w (Nat.le_refl _) hp2 h (by rw [List.take_length]; exact hp1)
      rw [List.take_length] at h2
      exact h2)
    (fun h0 a c w => by
      have e : xs = [] := List.length_eq_zero_iff.1 h0
      subst e
      refine (Tryz.slices_BinarySearch_int_empty a c x w).mono fun e w' h => ?_
      obtain ⟨rfl, rfl⟩ := h
      exact ⟨rfl, 0, rfl⟩)
def lend_slices_BinarySearch_int_int : List Nat := []
def sp_slices_BinarySearch_int_int : List AV → List Bx → (AV → List Bx → Prop) → Prop
  | [.sl none (.ints .i64 xs), .int .i64 x], [], K => (xs.Pairwise (· ≤ ·)) ∧ (xs.length < 4611686018427387904) ∧ K (.tup [.int .i64 (xs.countP (· < x) : Nat), .bool (xs.contains x)]) []
  | _, _, _ => False
theorem at_slices_BinarySearch_int_int {xs : List Int} {x : Int} {K : AV → List Bx → Prop} : sp_slices_BinarySearch_int_int [.sl none (.ints .i64 xs), .int .i64 x] [] K = ((xs.Pairwise (· ≤ ·)) ∧ (xs.length < 4611686018427387904) ∧ K (.tup [.int .i64 (xs.countP (· < x) : Nat), .bool (xs.contains x)]) []) := id rfl
theorem ok_slices_BinarySearch_int_int : ∀ args giv K, sp_slices_BinarySearch_int_int args giv K → ∃ r outs, ARuns Tryz.prog 79 args giv r outs ∧ K r outs := by
  intro args giv K hk
  unfold sp_slices_BinarySearch_int_int at hk
  split at hk
  · obtain ⟨hp1, hp2, hk⟩ := hk; exact ⟨_, _, runs_slices_BinarySearch_int_int _ _ hp1 hp2, hk⟩
  · exact hk.elim
theorem is_impl_hasSet : FnIs Tryz.prog 51 15 [.tmp 4] (Tryz.f51.body.getD .skip) := ⟨⟨Tryz.f51, by kernel_rfl, by kernel_rfl, by kernel_rfl, by kernel_rfl⟩, by kernel_rfl, by kernel_rfl⟩
def G_impl_hasSet : Gm := (Gm.none.add 79 lend_slices_BinarySearch_int_int sp_slices_BinarySearch_int_int)
theorem G_impl_hasSet_ok : G_impl_hasSet.ok Tryz.prog := (Gm.add_ok Gm.none_ok ok_slices_BinarySearch_int_int)
theorem gm_impl_hasSet {r : List Oper} {n : Nat} : splB G_impl_hasSet r n = true := rfl
theorem gs_impl_hasSet_79 : G_impl_hasSet.sp 79 = sp_slices_BinarySearch_int_int ∧ G_impl_hasSet.lend 79 = lend_slices_BinarySearch_int_int := ⟨rfl, rfl⟩
set_option maxHeartbeats 1000000 in
set_option maxRecDepth 100000 in
theorem runs_impl_hasSet (n : Int) (xs : List Int) (s : Int) (hp1 : Asc xs) (hp2 : xs.length ≤ 1048576) : ARuns Tryz.prog 51 [.agg [.int .i64 n, .sl none (.ints .i64 xs)], .int .i64 s] [] (.bool (decide (s ∈ xs))) [] := by
  refine ARuns_bc G_impl_hasSet_ok is_impl_hasSet (by simp) fun hl hlB => ?_
  simp only [kcode_at, kreg_at, bc_seq, bc_ret, bc_region, afin_nil, cvE_some, resL, resV, cv, pack, entryE, inPrm, entryB, Option.getD_some, acall_clo, kcall_nil, selOf, inArgs, inA, inL, okA, okL, outA, outL, outU, deep, deepL, List.map_nil, List.map_cons, List.all_nil, List.all_cons, BEq.rfl, Bool.and_true, List.append_nil, aops_nil, aops_plain, kont_at, aop_move, aop_assign, aop_box, aop_load, aop_fieldAddr, aop_extract, SC0, aop_call, evalE, getE, putE, getB, setB, St.put, setsB, AV.ofV, AV.blk, SC.len, List.length_nil, List.length_cons, Nat.reduceEqDiff, Nat.reduceAdd, ↓reduceIte, true_and, and_true, List.nil_append, List.cons_append, aBox_some, aField_ptr, aExtr_tup, aLoad_1b, lend, AV.cells, List.getD_cons_zero, List.getD_cons_succ, Nat.reduceLT, Nat.zero_add, BEq.rfl, sl3, sl24, ty24, ty26, gs_impl_hasSet_79, at_slices_BinarySearch_int_int, lend_slices_BinarySearch_int_int, Tryz.f51]
  have e : xs.contains s = decide (s ∈ xs) := by
    rw [Bool.eq_iff_iff]; simp
  exact ⟨asc_le hp1, by omega, by rw [e]⟩
def lend_impl_hasSet : List Nat := []
def sp_impl_hasSet : List AV → List Bx → (AV → List Bx → Prop) → Prop
  | [.agg [.int .i64 n, .sl none (.ints .i64 xs)], .int .i64 s], [], K => (Asc xs) ∧ (xs.length ≤ 1048576) ∧ K (.bool (decide (s ∈ xs))) []
  | _, _, _ => False
theorem at_impl_hasSet {n : Int} {xs : List Int} {s : Int} {K : AV → List Bx → Prop} : sp_impl_hasSet [.agg [.int .i64 n, .sl none (.ints .i64 xs)], .int .i64 s] [] K = ((Asc xs) ∧ (xs.length ≤ 1048576) ∧ K (.bool (decide (s ∈ xs))) []) := id rfl
theorem ok_impl_hasSet : ∀ args giv K, sp_impl_hasSet args giv K → ∃ r outs, ARuns Tryz.prog 51 args giv r outs ∧ K r outs := by
  intro args giv K hk
  unfold sp_impl_hasSet at hk
  split at hk
  · obtain ⟨hp1, hp2, hk⟩ := hk; exact ⟨_, _, runs_impl_hasSet _ _ _ hp1 hp2, hk⟩
  · exact hk.elim
theorem is_impl_groundOf : FnIs Tryz.prog 52 8 [.tmp 2] (Tryz.f52.body.getD .skip) := ⟨⟨Tryz.f52, by kernel_rfl, by kernel_rfl, by kernel_rfl, by kernel_rfl⟩, by kernel_rfl, by kernel_rfl⟩
def G_impl_groundOf : Gm := Gm.none
theorem G_impl_groundOf_ok : G_impl_groundOf.ok Tryz.prog := Gm.none_ok
theorem gm_impl_groundOf {r : List Oper} {n : Nat} : splB G_impl_groundOf r n = true := rfl
set_option maxHeartbeats 1000000 in
set_option maxRecDepth 100000 in
theorem runs_impl_groundOf (n : Int) (xs : List Int) (hp1 : 0 ≤ n ∧ n ≤ 10) : ARuns Tryz.prog 52 [.agg [.int .i64 n, .sl none (.ints .i64 xs)]] [] (.int .i64 (fullI n)) [] := by
  refine ARuns_bc G_impl_groundOf_ok is_impl_groundOf (by simp) fun hl hlB => ?_
  simp only [kcode_at, kreg_at, bc_seq, bc_ret, bc_region, afin_nil, cvE_some, resL, resV, cv, pack, entryE, inPrm, entryB, Option.getD_some, AV.bid, aops_nil, aops_plain, kont_at, aop_assign, aop_box, aop_load, aop_binOp, aop_convert, aop_fieldAddr, evalE, getE, putE, getB, setB, St.put, setsB, AV.ofV, AV.blk, AV.bid, List.length_nil, List.length_cons, Nat.reduceEqDiff, Nat.reduceAdd, ↓reduceIte, true_and, List.nil_append, List.cons_append, aBox_some, aInt_sub, aBin_sub, aBin_shl, aShift_shl, aConv_int, aField_ptr, aLoad_1b, aBinW_f, isW_tmp, isW_sub, cont, AV.cells, List.getD_cons_zero, Nat.reduceLT, Nat.zero_add, aConvS_int, sl3, ty3, un3, un67, ty26, inR64, inRu64, Tryz.f52]
  have hfl := full_bd hp1
  have ef : (1 : Int) * 2 ^ n.toNat = fullI n + 1 := by unfold fullI; omega
  rw [ef]
  simp only [IntKind.bits]
  exact ⟨by omega, by omega, by omega, by congr 1; omega⟩
def lend_impl_groundOf : List Nat := []
def sp_impl_groundOf : List AV → List Bx → (AV → List Bx → Prop) → Prop
  | [.agg [.int .i64 n, .sl none (.ints .i64 xs)]], [], K => (0 ≤ n ∧ n ≤ 10) ∧ K (.int .i64 (fullI n)) []
  | _, _, _ => False
theorem at_impl_groundOf {n : Int} {xs : List Int} {K : AV → List Bx → Prop} : sp_impl_groundOf [.agg [.int .i64 n, .sl none (.ints .i64 xs)]] [] K = ((0 ≤ n ∧ n ≤ 10) ∧ K (.int .i64 (fullI n)) []) := id rfl
theorem ok_impl_groundOf : ∀ args giv K, sp_impl_groundOf args giv K → ∃ r outs, ARuns Tryz.prog 52 args giv r outs ∧ K r outs := by
  intro args giv K hk
  unfold sp_impl_groundOf at hk
  split at hk
  · obtain ⟨hp1, hk⟩ := hk; exact ⟨_, _, runs_impl_groundOf _ _ hp1, hk⟩
  · exact hk.elim
theorem is_impl_ComplementFamily_1 : FnIs Tryz.prog 50 10 [.tmp 3] (Tryz.f50.body.getD .skip) := ⟨⟨Tryz.f50, by kernel_rfl, by kernel_rfl, by kernel_rfl, by kernel_rfl⟩, by kernel_rfl, by kernel_rfl⟩
def G_impl_ComplementFamily_1 : Gm := ((Gm.none.add 51 lend_impl_hasSet sp_impl_hasSet).add 52 lend_impl_groundOf sp_impl_groundOf)
theorem G_impl_ComplementFamily_1_ok : G_impl_ComplementFamily_1.ok Tryz.prog := (Gm.add_ok (Gm.add_ok Gm.none_ok ok_impl_hasSet) ok_impl_groundOf)
theorem gm_impl_ComplementFamily_1 {r : List Oper} {n : Nat} : splB G_impl_ComplementFamily_1 r n = true := rfl
theorem gs_impl_ComplementFamily_1_51 : G_impl_ComplementFamily_1.sp 51 = sp_impl_hasSet ∧ G_impl_ComplementFamily_1.lend 51 = lend_impl_hasSet := ⟨rfl, rfl⟩
theorem gs_impl_ComplementFamily_1_52 : G_impl_ComplementFamily_1.sp 52 = sp_impl_groundOf ∧ G_impl_ComplementFamily_1.lend 52 = lend_impl_groundOf := ⟨rfl, rfl⟩
set_option maxHeartbeats 1000000 in
set_option maxRecDepth 100000 in
theorem runs_impl_ComplementFamily_1 (s n : Int) (xs : List Int) (hp1 : 0 ≤ n ∧ n ≤ 6) (hp2 : Asc xs) (hp3 : xs.length ≤ 1048576) : ARuns Tryz.prog 50 [.int .i64 s, .pv [.int .i64 n, .sl none (.ints .i64 xs)] 0] [] (.bool (coP n xs s)) [] := by
  refine ARuns_bc G_impl_ComplementFamily_1_ok is_impl_ComplementFamily_1 (by simp) fun hl hlB => ?_
  simp only [kcode_at, kreg_at, bc_seq, bc_ret, bc_region, afin_nil, cvE_some, resL, resV, cv, pack, entryE, inPrm, entryB, Option.getD_some, acall_clo, kcall_nil, selOf, inArgs, inA, inL, okA, outA, outU, deep, deepL, List.map_nil, List.map_cons, List.all_nil, List.all_cons, BEq.rfl, Bool.and_true, List.append_nil, aops_nil, aops_plain, kont_at, aop_move, aop_assign, aop_load, aop_binOp, SC0, aop_call, evalE, getE, putE, getB, St.put, setsB, AV.ofV, SC.len, List.length_nil, List.length_cons, Nat.reduceEqDiff, Nat.reduceAdd, ↓reduceIte, true_and, and_true, decide_eq_true_eq, decide_eq_false_iff_not, List.nil_append, aInt_andNot, aBin_andNot, aLoad_fp, aBinW_f, isW_tmp, bc_draw, kregD_at, aopsD_nil, aopsD_plain, kontD_at, splW_t, contD_at, splD_bool, splD_int, splD_tt, splD_ff, splD_agg, addTr_nil, regR_nil, lend, Nat.zero_add, BEq.rfl, sl3, un3, ty26, sl26, gm_impl_ComplementFamily_1, gs_impl_ComplementFamily_1_51, at_impl_hasSet, lend_impl_hasSet, gs_impl_ComplementFamily_1_52, at_impl_groundOf, lend_impl_groundOf, Tryz.f50]
  refine ⟨by omega, hp2, hp3, fun h => ?_, fun h => ?_⟩
  · unfold coP; rw [decide_eq_true h]
  · unfold coP; rw [decide_eq_false h]
def lend_impl_ComplementFamily_1 : List Nat := []
def sp_impl_ComplementFamily_1 : List AV → List Bx → (AV → List Bx → Prop) → Prop
  | [.int .i64 s, .pv [.int .i64 n, .sl none (.ints .i64 xs)] 0], [], K => (0 ≤ n ∧ n ≤ 6) ∧ (Asc xs) ∧ (xs.length ≤ 1048576) ∧ K (.bool (coP n xs s)) []
  | _, _, _ => False
theorem at_impl_ComplementFamily_1 {s n : Int} {xs : List Int} {K : AV → List Bx → Prop} : sp_impl_ComplementFamily_1 [.int .i64 s, .pv [.int .i64 n, .sl none (.ints .i64 xs)] 0] [] K = ((0 ≤ n ∧ n ≤ 6) ∧ (Asc xs) ∧ (xs.length ≤ 1048576) ∧ K (.bool (coP n xs s)) []) := id rfl
theorem ok_impl_ComplementFamily_1 : ∀ args giv K, sp_impl_ComplementFamily_1 args giv K → ∃ r outs, ARuns Tryz.prog 50 args giv r outs ∧ K r outs := by
  intro args giv K hk
  unfold sp_impl_ComplementFamily_1 at hk
  split at hk
  · obtain ⟨hp1, hp2, hp3, hk⟩ := hk; exact ⟨_, _, runs_impl_ComplementFamily_1 _ _ _ hp1 hp2 hp3, hk⟩
  · exact hk.elim
theorem is_impl_choose : FnIs Tryz.prog 49 26 [ResultVar.cell 4 26] (Tryz.f49.body.getD .skip) := ⟨⟨Tryz.f49, by kernel_rfl, by kernel_rfl, by kernel_rfl, by kernel_rfl⟩, by kernel_rfl, by kernel_rfl⟩
def G_impl_choose : Gm := (Gm.none.add 50 lend_impl_ComplementFamily_1 sp_impl_ComplementFamily_1)
theorem G_impl_choose_ok : G_impl_choose.ok Tryz.prog := (Gm.add_ok Gm.none_ok ok_impl_ComplementFamily_1)
theorem gm_impl_choose {r : List Oper} {n : Nat} : splB G_impl_choose r n = true := rfl
theorem gs_impl_choose_50 : G_impl_choose.sp 50 = sp_impl_ComplementFamily_1 ∧ G_impl_choose.lend 50 = lend_impl_ComplementFamily_1 := ⟨rfl, rfl⟩
set_option maxHeartbeats 1000000 in
set_option maxRecDepth 100000 in
theorem runs_impl_choose (n m : Int) (xs : List Int) (hp1 : 0 ≤ n ∧ n ≤ 6) (hp2 : 0 ≤ m ∧ m ≤ 6) (hp3 : Asc xs) (hp4 : xs.length ≤ 1048576) : ARuns Tryz.prog 49 [.int .i64 n, .clo 50 [.pv [.int .i64 m, .sl none (.ints .i64 xs)] 0]] [] (.agg [.int .i64 n, .ref 0 (selF (coP m xs) (2 ^ n.toNat)).length]) [.row 3 (.ints .i64 (selF (coP m xs) (2 ^ n.toNat)))] := by
  refine ARuns_bc G_impl_choose_ok is_impl_choose (by simp) fun hl hlB => ?_
  simp only [kcode_at, kreg_at, bc_seq, bc_block, bc_region, entryE, inPrm, entryB, Option.getD_some, AV.bid, List.map_nil, List.map_cons, List.all_nil, List.all_cons, Bool.and_true, aops_nil, aops_plain, kont_at, aop_move, aop_alloc, aop_build, aop_store, aop_binOp, aop_convert, evalE, getE, putE, getB, setB, St.put, setsB, AV.ofV, AV.blk, AV.bid, AV.one, List.length_nil, List.length_cons, Nat.reduceEqDiff, Nat.reduceAdd, ↓reduceIte, true_and, and_true, decide_eq_true_eq, List.nil_append, List.cons_append, aAlloc_flat, aBuild_flat, aBin_shl, aShift_shl, aConv_int, aStore_f, aBinW_f, isW_tmp, cont, fillA, List.set_cons_zero, Nat.reduceLT, Nat.zero_add, aConvS_int, sl3, un3, un67, ty26, inR64, inRu64, Tryz.f49]
  obtain ⟨e1, e2, e3⟩ := pow6 hp1
  simp only [IntKind.bits, e1]
  refine ⟨by omega, by omega, ?_⟩
  refine bc_loopN [(1001001, 3, .ints .i64 [])] (fun i : Nat => i ≤ 2 ^ n.toNat)
    (fun i => ⟨[(1, .clo 50 [.pv [.int .i64 m, .sl none (.ints .i64 xs)] 0]), (4, .ptr 0 0), (5, .ptr 1 0), (11, .int .i64 ((2 ^ n.toNat : Nat) : Int)), (12, .int .i64 i)],
      [.box [.int .i64 0, .nil], .box [.int .i64 n, .ref 2 (selF (coP m xs) i).length], .row 3 (.ints .i64 (selF (coP m xs) i))]⟩) (fun i => 2 ^ n.toNat - i)
    [1, 4, 5, 11, 12] [0, 1, 2] 0 rfl rfl (by simp [St.conv, St.bf, getE, putE, getB, cv, cvL, cvB, idx, still, pack, lifts, liftOne, liftC, liftK, killB, cellsOfB, setB]; simp [selF]) (by omega) fun i hi => ?_
  simp only [kcode_at, kreg_at, bc_skip, bc_seq, bc_cond, bc_block, bc_exit, bc_ret, bc_region, lkX_cons, acond_tmp, aCase_b, acall_clo, kcall_nil, selOf, inArgs, inA, inL, okA, outA, outU, deep, deepL, AV.bid, List.map_nil, List.map_cons, List.all_nil, List.all_cons, BEq.rfl, Bool.and_true, List.append_nil, aops_nil, aops_plain, kont_at, aop_move, aop_assign, aop_buildSlice, aop_load, aop_store, aop_binOp, aop_fieldAddr, slTy2, SC0, aop_append, aop_call, evalE, getE, putE, getB, setB, St.put, setsB, AV.ofV, AV.blk, AV.bid, AV.one, SC.len, List.length_nil, List.length_cons, Nat.reduceEqDiff, Nat.reduceAdd, ↓reduceIte, true_and, and_true, decide_eq_true_eq, decide_eq_false_iff_not, List.nil_append, List.cons_append, aInt_add, aBin_add, aInt_lss, aBin_lss, aField_ptr, aBuildL_some, aBuildS_some, aLoad_1b, aLoad_fb, aStore_1, aStore_f, aApp_some, aAppend_ref, aBinW_f, isW_tmp, isW_addc, Int.reduceLT, aBinW_dF, rng1, cont, still, dies, lend, snocs, SC.snoc, SC.app, List.getD_cons_zero, List.getD_cons_succ, List.set_cons_zero, List.set_cons_succ, Nat.reduceLT, Nat.reduceLeDiff, List.flatMap_nil, List.flatMap_cons, Nat.zero_add, BEq.rfl, plainA, sl3, un3, sl24, ty24, ty26, inR64, gs_impl_choose_50, at_impl_ComplementFamily_1, lend_impl_ComplementFamily_1]
  have hlen := selF_len (p := coP m xs) (i := i)
  have ht := selF_t (p := coP m xs) (i := i)
  have hf := selF_f (p := coP m xs) (i := i)
  refine ⟨fun hlt => ⟨hp2, hp3, hp4, fun a1 => ⟨by omega, by omega, klp_of (i + 1) ?_ (by omega) (by omega)⟩, fun a1 => ⟨by omega, klp_of (i + 1) ?_ (by omega) (by omega)⟩⟩, fun hge => ?_⟩
  · rw [ht a1]; simp [St.conv, St.bf, getE, putE, getB, cv, cvL, cvB, idx, still, pack, lifts, liftOne, liftC, liftK, killB, cellsOfB, setB]
  · rw [hf a1]; simp [St.conv, St.bf, getE, putE, getB, cv, cvL, cvB, idx, still, pack, lifts, liftOne, liftC, liftK, killB, cellsOfB, setB]
  · have : i = 2 ^ n.toNat := by omega
    subst this
    exact afin_of [2] rfl (by simp only [resL, resV, resC, getE, putE, getB, setB, lifts, liftOne, liftC, liftK, killB, cellsOfB, List.length_cons, List.length_nil, List.nil_append, List.cons_append, Nat.reduceAdd, Nat.reduceEqDiff, ↓reduceIte, ty3, ty67, ty120, ty118, ty5, ty2, ty21, ty4, ty9, ty24, ty22, ty53, ty26, ty81]; rfl) (by simp [St.conv, St.bf, getE, putE, getB, cv, cvL, cvB, idx, still, pack, lifts, liftOne, liftC, liftK, killB, cellsOfB, setB]) (by simp [St.conv, St.bf, getE, putE, getB, cv, cvL, cvB, idx, still, pack, lifts, liftOne, liftC, liftK, killB, cellsOfB, setB])
def lend_impl_choose : List Nat := []
def sp_impl_choose : List AV → List Bx → (AV → List Bx → Prop) → Prop
  | [.int .i64 n, .clo 50 [.pv [.int .i64 m, .sl none (.ints .i64 xs)] 0]], [], K => (0 ≤ n ∧ n ≤ 6) ∧ (0 ≤ m ∧ m ≤ 6) ∧ (Asc xs) ∧ (xs.length ≤ 1048576) ∧ K (.agg [.int .i64 n, .ref 0 (selF (coP m xs) (2 ^ n.toNat)).length]) [.row 3 (.ints .i64 (selF (coP m xs) (2 ^ n.toNat)))]
  | _, _, _ => False
theorem at_impl_choose {n m : Int} {xs : List Int} {K : AV → List Bx → Prop} : sp_impl_choose [.int .i64 n, .clo 50 [.pv [.int .i64 m, .sl none (.ints .i64 xs)] 0]] [] K = ((0 ≤ n ∧ n ≤ 6) ∧ (0 ≤ m ∧ m ≤ 6) ∧ (Asc xs) ∧ (xs.length ≤ 1048576) ∧ K (.agg [.int .i64 n, .ref 0 (selF (coP m xs) (2 ^ n.toNat)).length]) [.row 3 (.ints .i64 (selF (coP m xs) (2 ^ n.toNat)))]) := id rfl
theorem ok_impl_choose : ∀ args giv K, sp_impl_choose args giv K → ∃ r outs, ARuns Tryz.prog 49 args giv r outs ∧ K r outs := by
  intro args giv K hk
  unfold sp_impl_choose at hk
  split at hk
  · obtain ⟨hp1, hp2, hp3, hp4, hk⟩ := hk; exact ⟨_, _, runs_impl_choose _ _ _ hp1 hp2 hp3 hp4, hk⟩
  · exact hk.elim
theorem is_impl_ComplementFamily : FnIs Tryz.prog 16 12 [ResultVar.cell 2 26, .tmp 3] (Tryz.f16.body.getD .skip) := ⟨⟨Tryz.f16, by kernel_rfl, by kernel_rfl, by kernel_rfl, by kernel_rfl⟩, by kernel_rfl, by kernel_rfl⟩
def G_impl_ComplementFamily : Gm := ((Gm.none.add 10 lend_impl_IsFamily sp_impl_IsFamily).add 49 lend_impl_choose sp_impl_choose)
theorem G_impl_ComplementFamily_ok : G_impl_ComplementFamily.ok Tryz.prog := (Gm.add_ok (Gm.add_ok Gm.none_ok ok_impl_IsFamily) ok_impl_choose)
theorem gm_impl_ComplementFamily {r : List Oper} {n : Nat} : splB G_impl_ComplementFamily r n = true := rfl
theorem gs_impl_ComplementFamily_10 : G_impl_ComplementFamily.sp 10 = sp_impl_IsFamily ∧ G_impl_ComplementFamily.lend 10 = lend_impl_IsFamily := ⟨rfl, rfl⟩
theorem gs_impl_ComplementFamily_49 : G_impl_ComplementFamily.sp 49 = sp_impl_choose ∧ G_impl_ComplementFamily.lend 49 = lend_impl_choose := ⟨rfl, rfl⟩
set_option maxHeartbeats 1000000 in
set_option maxRecDepth 100000 in
theorem runs_impl_ComplementFamily (n : Int) (xs : List Int) (hp1 : xs.length ≤ 1048576) : ARuns Tryz.prog 16 [.agg [.int .i64 n, .sl none (.ints .i64 xs)]] [] (.tup [.agg [.int .i64 (coN n xs), .ref 0 (coL n xs).length], .bool (famB n xs)]) [.row 3 (.ints .i64 (coL n xs))] := by
  refine ARuns_bc G_impl_ComplementFamily_ok is_impl_ComplementFamily (by simp) fun hl hlB => ?_
  simp only [kcode_at, kreg_at, bc_skip, bc_seq, bc_cond, bc_ret, bc_region, acond_tmp, aCase_b, entryE, inPrm, entryB, Option.getD_some, acall_clo, kcall_nil, selOf, inArgs, inA, inL, okA, okL, okBx, okC, outA, outL, outU, outB, deep, deepL, List.map_nil, List.map_cons, List.all_nil, List.all_cons, BEq.rfl, Bool.and_true, List.append_nil, aops_nil, aops_plain, kont_at, aop_assign, aop_alloc, aop_box, aop_build, aop_load, aop_store, aop_unOp, aop_fieldAddr, SC0, aop_call, evalE, getE, putE, getB, setB, St.put, setsB, AV.ofV, AV.blk, AV.one, SC.len, List.length_nil, List.length_cons, Nat.reduceEqDiff, Nat.reduceAdd, ↓reduceIte, true_and, and_true, Bool.not_eq_true', Bool.not_eq_false', List.nil_append, List.cons_append, aAlloc_flat, aBox_some, aBuild_flat, aUn_b, aField_ptr, aLoad_1b, aLoad_fb, aStore_f, mp_nil, idx, lend, AV.cells, fillA, List.getD_cons_zero, Nat.reduceLT, Nat.zero_add, BEq.rfl, aop_makeFunc, plainA, sl3, ty3, sl62, ty26, sl26, gs_impl_ComplementFamily_10, at_impl_IsFamily, lend_impl_IsFamily, gs_impl_ComplementFamily_49, at_impl_choose, lend_impl_choose, Tryz.f16]
  refine ⟨fun h => ?_, fun h => ?_⟩
  · rw [(co_f h).1, (co_f h).2, h]
    exact afin_ofN [(1001001, 3, .ints .i64 [])] [2] rfl rfl (by simp only [resL, resV, resC, getE, putE, getB, setB, lifts, liftOne, liftC, liftK, killB, cellsOfB, List.length_cons, List.length_nil, List.nil_append, List.cons_append, Nat.reduceAdd, Nat.reduceEqDiff, ↓reduceIte, ty3, ty67, ty120, ty118, ty5, ty2, ty21, ty4, ty9, ty24, ty22, ty53, ty26, ty81]; rfl) (by simp [St.conv, St.bf, getE, putE, getB, cv, cvL, cvB, idx, still, pack, lifts, liftOne, liftC, liftK, killB, cellsOfB, setB]) (by simp [St.conv, St.bf, getE, putE, getB, cv, cvL, cvB, idx, still, pack, lifts, liftOne, liftC, liftK, killB, cellsOfB, setB])
  rw [(co_t h).1, (co_t h).2, h]
  have hn := (famB_bd h).1
  exact ⟨hn, hn, asc_fam h, hp1, afin_of [2] rfl (by simp only [resL, resV, resC, getE, putE, getB, setB, lifts, liftOne, liftC, liftK, killB, cellsOfB, List.length_cons, List.length_nil, List.nil_append, List.cons_append, Nat.reduceAdd, Nat.reduceEqDiff, ↓reduceIte, ty3, ty67, ty120, ty118, ty5, ty2, ty21, ty4, ty9, ty24, ty22, ty53, ty26, ty81]; rfl) (by simp [St.conv, St.bf, getE, putE, getB, cv, cvL, cvB, idx, still, pack, lifts, liftOne, liftC, liftK, killB, cellsOfB, setB]) (by simp [St.conv, St.bf, getE, putE, getB, cv, cvL, cvB, idx, still, pack, lifts, liftOne, liftC, liftK, killB, cellsOfB, setB])⟩
def lend_impl_ComplementFamily : List Nat := []
def sp_impl_ComplementFamily : List AV → List Bx → (AV → List Bx → Prop) → Prop
  | [.agg [.int .i64 n, .sl none (.ints .i64 xs)]], [], K => (xs.length ≤ 1048576) ∧ K (.tup [.agg [.int .i64 (coN n xs), .ref 0 (coL n xs).length], .bool (famB n xs)]) [.row 3 (.ints .i64 (coL n xs))]
  | _, _, _ => False
theorem at_impl_ComplementFamily {n : Int} {xs : List Int} {K : AV → List Bx → Prop} : sp_impl_ComplementFamily [.agg [.int .i64 n, .sl none (.ints .i64 xs)]] [] K = ((xs.length ≤ 1048576) ∧ K (.tup [.agg [.int .i64 (coN n xs), .ref 0 (coL n xs).length], .bool (famB n xs)]) [.row 3 (.ints .i64 (coL n xs))]) := id rfl
theorem ok_impl_ComplementFamily : ∀ args giv K, sp_impl_ComplementFamily args giv K → ∃ r outs, ARuns Tryz.prog 16 args giv r outs ∧ K r outs := by
  intro args giv K hk
  unfold sp_impl_ComplementFamily at hk
  split at hk
  · obtain ⟨hp1, hk⟩ := hk; exact ⟨_, _, runs_impl_ComplementFamily _ _ hp1, hk⟩
  · exact hk.elim
theorem is_spec_ComplementFamily : FnIs Tryz.prog 17 35 [ResultVar.cell 2 26, .tmp 3] (Tryz.f17.body.getD .skip) := ⟨⟨Tryz.f17, by kernel_rfl, by kernel_rfl, by kernel_rfl, by kernel_rfl⟩, by kernel_rfl, by kernel_rfl⟩
def G_spec_ComplementFamily : Gm := ((Gm.none.add 9 lend_spec_IsFamily sp_spec_IsFamily).add 42 lend_spec_l2Full sp_spec_l2Full)
theorem G_spec_ComplementFamily_ok : G_spec_ComplementFamily.ok Tryz.prog := (Gm.add_ok (Gm.add_ok Gm.none_ok ok_spec_IsFamily) ok_spec_l2Full)
theorem gm_spec_ComplementFamily {r : List Oper} {n : Nat} : splB G_spec_ComplementFamily r n = true := rfl
theorem gs_spec_ComplementFamily_9 : G_spec_ComplementFamily.sp 9 = sp_spec_IsFamily ∧ G_spec_ComplementFamily.lend 9 = lend_spec_IsFamily := ⟨rfl, rfl⟩
theorem gs_spec_ComplementFamily_42 : G_spec_ComplementFamily.sp 42 = sp_spec_l2Full ∧ G_spec_ComplementFamily.lend 42 = lend_spec_l2Full := ⟨rfl, rfl⟩
set_option maxHeartbeats 1000000 in
set_option maxRecDepth 100000 in
theorem runs_spec_ComplementFamily (n : Int) (xs : List Int) (hp1 : xs.length ≤ 1048576) : ARuns Tryz.prog 17 [.agg [.int .i64 n, .sl none (.ints .i64 xs)]] [] (.tup [.agg [.int .i64 (coN n xs), .ref 0 (coR n xs).length], .bool (famB n xs)]) [.row 3 (.ints .i64 (coR n xs))] := by
  refine ARuns_bc G_spec_ComplementFamily_ok is_spec_ComplementFamily (by simp) fun hl hlB => ?_
  simp only [kcode_at, kreg_at, bc_skip, bc_seq, bc_cond, bc_block, bc_ret, bc_region, acond_tmp, aCase_b, entryE, inPrm, entryB, Option.getD_some, acall_clo, kcall_nil, selOf, inArgs, inA, inL, okA, outA, outU, deep, deepL, AV.bid, List.map_nil, List.map_cons, List.all_nil, List.all_cons, BEq.rfl, Bool.and_true, List.append_nil, aops_nil, aops_plain, kont_at, aop_assign, aop_alloc, aop_box, aop_build, aop_buildSlice, aop_load, aop_store, aop_binOp, aop_unOp, aop_fieldAddr, aop_len, SC0, aop_call, evalE, getE, putE, getB, setB, St.put, setsB, AV.ofV, AV.blk, AV.bid, AV.one, SC.len, List.length_nil, List.length_cons, Nat.reduceEqDiff, Nat.reduceAdd, ↓reduceIte, true_and, and_true, Bool.not_eq_true', Bool.not_eq_false', List.nil_append, List.cons_append, aAlloc_flat, aBox_some, aBuild_flat, aInt_sub, aBin_sub, aUn_b, aField_ptr, aLen_sl, aBuildL_some, aBuildS_some, aLoad_1b, aLoad_fb, aStore_f, aBinW_f, isW_sub, rng0, still, dies, lend, snocs, AV.cells, fillA, List.getD_cons_zero, List.getD_cons_succ, Nat.reduceLT, Nat.reduceLeDiff, List.flatMap_nil, Nat.zero_add, BEq.rfl, un3, sl24, ty24, un24, ty26, sl26, inR64, gs_spec_ComplementFamily_9, at_spec_IsFamily, lend_spec_IsFamily, Tryz.f17]
  refine ⟨fun h => ?_, fun h => ?_⟩
  · rw [(co_f h).1, (cr_f h), h]
    exact afin_ofN [(1001001, 3, .ints .i64 [])] [2] rfl rfl (by simp only [resL, resV, resC, getE, putE, getB, setB, lifts, liftOne, liftC, liftK, killB, cellsOfB, List.length_cons, List.length_nil, List.nil_append, List.cons_append, Nat.reduceAdd, Nat.reduceEqDiff, ↓reduceIte, ty3, ty67, ty120, ty118, ty5, ty2, ty21, ty4, ty9, ty24, ty22, ty53, ty26, ty81]; rfl) (by simp [St.conv, St.bf, getE, putE, getB, cv, cvL, cvB, idx, still, pack, lifts, liftOne, liftC, liftK, killB, cellsOfB, setB]) (by simp [St.conv, St.bf, getE, putE, getB, cv, cvL, cvB, idx, still, pack, lifts, liftOne, liftC, liftK, killB, cellsOfB, setB])
  rw [(co_t h).1, (cr_t h), h]
  have hbd := famB_bd h
  have hfl := full_bd (n := n) (by omega)
  refine ⟨by omega, ?_⟩
  refine bc_loop (fun k : Nat => k ≤ xs.length)
    (fun k => ⟨[(1, .ptr 0 0), (2, .ptr 1 0), (4, .ref 2 k), (5, .int .i64 ((xs.length : Int) - 1 - k))], [.box [.int .i64 n, .sl none (.ints .i64 xs)], .box [.int .i64 0, .nil], .row 3 (.ints .i64 (crT n xs k))]⟩) (fun k => xs.length - k)
    [1, 2, 4, 5] [0, 1, 2] 0 rfl (by simp [St.conv, St.bf, getE, putE, getB, cv, cvL, cvB, idx, still, pack, lifts, liftOne, liftC, liftK, killB, cellsOfB, setB]; simp [crT]) (by omega) fun k hk => ?_
  simp only [kcode_at, kreg_at, bc_skip, bc_seq, bc_cond, bc_block, bc_exit, bc_ret, bc_region, lkX_cons, acond_tmp, aCase_b, acall_clo, kcall_nil, selOf, inArgs, inA, inL, okA, outA, outU, deep, deepL, AV.bid, List.map_nil, List.map_cons, List.all_nil, List.all_cons, BEq.rfl, Bool.and_true, List.append_nil, aops_nil, aops_plain, kont_at, aop_move, aop_assign, aop_build, aop_buildSlice, aop_load, aop_store, aop_binOp, aop_fieldAddr, aop_indexAddr, slTy2, SC0, aop_append, aop_call, evalE, getE, putE, getB, setB, St.put, setsB, AV.ofV, AV.blk, AV.bid, AV.one, SC.len, SC.get, List.length_nil, List.length_cons, Nat.reduceEqDiff, Nat.reduceAdd, ↓reduceIte, true_and, and_true, decide_eq_true_eq, decide_eq_false_iff_not, Option.isSome, List.nil_append, List.cons_append, aBuild_flat, aInt_sub, aBin_sub, aInt_geq, aBin_geq, aField_ptr, aIdx_sl, aBuildL_some, aBuildS_some, aLoad_1b, aLoad_ep, aStore_f, aApp_some, aAppend_ref, aBinW_f, isW_tmp, isW_sub, isW_geq, bc_draw, kregD_at, aopsD_nil, aopsD_plain, kontD_at, splW_t, contD_at, splD_int, splD_sl, splD_ref, splD_ptr, splD_ep, addTr_nil, addTr_cons, memQ_nil, memQ_cons, clash_nil, clash_cons, regC_none, regC_nil, regC_cons, regR_nil, regR_cons, rng1, cont, still, dies, lend, snocs, SC.snoc, SC.app, fillA, List.getD_cons_zero, List.getD_cons_succ, List.set_cons_zero, List.set_cons_succ, Nat.reduceLT, Nat.reduceLeDiff, List.flatMap_nil, List.flatMap_cons, Nat.zero_add, BEq.rfl, sl3, ty3, un3, sl24, ty24, ty26, inR64, gm_spec_ComplementFamily, gs_spec_ComplementFamily_42, at_spec_l2Full, lend_spec_l2Full]
  have hln := crT_len (n := n) (xs := xs) (k := k) hk
  refine ⟨fun h1 => ?_, fun h1 => ⟨by simp, ?_⟩⟩
  · have ei : ((xs.length : Int) - 1 - k).toNat = xs.length - 1 - k := by omega
    have hx := hbd.2 (xs.length - 1 - k) (by omega)
    rw [ei]
    refine ⟨by omega, by omega, by omega, ⟨hln, by omega⟩, (by (repeat' apply And.intro) <;> (show ordB _ _ _ = true; kernel_rfl)), by omega, klp_of (k + 1) ?_ (by omega) (by omega)⟩
    rw [crT_s (by omega)]
    simp [St.conv, St.bf, getE, putE, getB, cv, cvL, cvB, idx, still, pack, lifts, liftOne, liftC, liftK, killB, cellsOfB, setB]
    omega
  · obtain rfl : k = xs.length := by omega
    rw [hln]
    exact afin_of [2] rfl (by simp only [resL, resV, resC, getE, putE, getB, setB, lifts, liftOne, liftC, liftK, killB, cellsOfB, List.length_cons, List.length_nil, List.nil_append, List.cons_append, Nat.reduceAdd, Nat.reduceEqDiff, ↓reduceIte, ty3, ty67, ty120, ty118, ty5, ty2, ty21, ty4, ty9, ty24, ty22, ty53, ty26, ty81]; rfl) (by simp [St.conv, St.bf, getE, putE, getB, cv, cvL, cvB, idx, still, pack, lifts, liftOne, liftC, liftK, killB, cellsOfB, setB]) (by simp [St.conv, St.bf, getE, putE, getB, cv, cvL, cvB, idx, still, pack, lifts, liftOne, liftC, liftK, killB, cellsOfB, setB])
def lend_spec_ComplementFamily : List Nat := []
def sp_spec_ComplementFamily : List AV → List Bx → (AV → List Bx → Prop) → Prop
  | [.agg [.int .i64 n, .sl none (.ints .i64 xs)]], [], K => (xs.length ≤ 1048576) ∧ K (.tup [.agg [.int .i64 (coN n xs), .ref 0 (coR n xs).length], .bool (famB n xs)]) [.row 3 (.ints .i64 (coR n xs))]
  | _, _, _ => False
theorem at_spec_ComplementFamily {n : Int} {xs : List Int} {K : AV → List Bx → Prop} : sp_spec_ComplementFamily [.agg [.int .i64 n, .sl none (.ints .i64 xs)]] [] K = ((xs.length ≤ 1048576) ∧ K (.tup [.agg [.int .i64 (coN n xs), .ref 0 (coR n xs).length], .bool (famB n xs)]) [.row 3 (.ints .i64 (coR n xs))]) := id rfl
theorem ok_spec_ComplementFamily : ∀ args giv K, sp_spec_ComplementFamily args giv K → ∃ r outs, ARuns Tryz.prog 17 args giv r outs ∧ K r outs := by
  intro args giv K hk
  unfold sp_spec_ComplementFamily at hk
  split at hk
  · obtain ⟨hp1, hk⟩ := hk; exact ⟨_, _, runs_spec_ComplementFamily _ _ hp1, hk⟩
  · exact hk.elim
theorem is_impl_DegreeOf : FnIs Tryz.prog 18 34 [.tmp 4] (Tryz.f18.body.getD .skip) := ⟨⟨Tryz.f18, by kernel_rfl, by kernel_rfl, by kernel_rfl, by kernel_rfl⟩, by kernel_rfl, by kernel_rfl⟩
def G_impl_DegreeOf : Gm := ((Gm.none.add 10 lend_impl_IsFamily sp_impl_IsFamily).add 53 lend_impl_isElement sp_impl_isElement)
theorem G_impl_DegreeOf_ok : G_impl_DegreeOf.ok Tryz.prog := (Gm.add_ok (Gm.add_ok Gm.none_ok ok_impl_IsFamily) ok_impl_isElement)
theorem gm_impl_DegreeOf {r : List Oper} {n : Nat} : splB G_impl_DegreeOf r n = true := rfl
theorem gs_impl_DegreeOf_10 : G_impl_DegreeOf.sp 10 = sp_impl_IsFamily ∧ G_impl_DegreeOf.lend 10 = lend_impl_IsFamily := ⟨rfl, rfl⟩
theorem gs_impl_DegreeOf_53 : G_impl_DegreeOf.sp 53 = sp_impl_isElement ∧ G_impl_DegreeOf.lend 53 = lend_impl_isElement := ⟨rfl, rfl⟩
set_option maxHeartbeats 1000000 in
set_option maxRecDepth 100000 in
theorem runs_impl_DegreeOf (n : Int) (xs : List Int) (e : Int) : ARuns Tryz.prog 18 [.agg [.int .i64 n, .sl none (.ints .i64 xs)], .int .i64 e] [] (.int .i64 (degI n xs e)) [] := by
  refine ARuns_bc G_impl_DegreeOf_ok is_impl_DegreeOf (by simp) fun hl hlB => ?_
  simp only [kcode_at, kreg_at, bc_skip, bc_seq, bc_cond, bc_block, bc_ret, bc_region, acond_tmp, aCase_t, aCase_b, afin_nil, cvE_some, resL, resV, cv, pack, entryE, inPrm, entryB, Option.getD_some, acall_clo, kcall_nil, selOf, inArgs, inA, inL, okA, outA, outU, deep, deepL, List.map_nil, List.map_cons, List.all_nil, List.all_cons, BEq.rfl, Bool.and_true, List.append_nil, aops_nil, aops_plain, aops_guard, kont_at, yes_at, no_at, aop_move, aop_assign, aop_pick, aop_box, aop_load, aop_unOp, aop_fieldAddr, aop_len, SC0, aop_call, evalE, getE, putE, getB, setB, St.put, setsB, nth, AV.ofV, AV.blk, SC.len, List.length_nil, List.length_cons, Nat.reduceEqDiff, Nat.reduceAdd, ↓reduceIte, true_and, and_true, Bool.not_eq_true', Bool.not_eq_false', List.nil_append, List.cons_append, aGuardO_some, aGuard_ft, aGuard_ff, aGuard_fb, aPick_t, aPick_f, aBox_some, aUn_b, aField_ptr, aLen_sl, aLoad_1b, aLoad_fb, lend, AV.cells, List.getD_cons_zero, List.getD_cons_succ, Nat.reduceLT, Nat.zero_add, BEq.rfl, sl3, ty3, ty24, un24, ty26, sl26, gs_impl_DegreeOf_10, at_impl_IsFamily, lend_impl_IsFamily, gs_impl_DegreeOf_53, at_impl_isElement, lend_impl_isElement, Tryz.f18]
  simp only [lensA, lenA, lenSC] at hl
  refine ⟨fun h => by rw [degI_f (.inl h)], fun hf => ?_⟩
  have hb := famB_bd hf
  refine ⟨fun h => by rw [degI_f (.inr h)], fun he => ?_⟩
  rw [degI_t hf he]
  rw [inB_t] at he
  refine bc_loop (fun i : Nat => i ≤ xs.length)
    (fun i => ⟨[(1, .int .i64 e), (5, .int .i64 (degF xs e i)), (19, .sl none (.ints .i64 xs)), (20, .int .i64 xs.length), (21, .int .i64 i)], []⟩) (fun i => xs.length - i)
    [1, 5, 19, 20, 21] [] 0 rfl (by simp [St.conv, St.bf, getE, putE, getB, cv, cvL, cvB, idx, still, pack, lifts, liftOne, liftC, liftK, killB, cellsOfB, setB]; rfl) (by simp) fun i h1 => ?_
  simp only [kcode_at, kreg_at, bc_skip, bc_seq, bc_cond, bc_block, bc_exit, bc_ret, bc_region, lkX_cons, acond_tmp, aCase_b, afin_nil, cvE_some, resL, resV, cv, pack, AV.bid, aops_nil, aops_plain, kont_at, aop_move, aop_assign, aop_load, aop_binOp, aop_convert, aop_indexAddr, evalE, getE, putE, getB, St.put, setsB, AV.ofV, AV.bid, SC.len, SC.get, List.length_nil, Nat.reduceEqDiff, ↓reduceIte, true_and, decide_eq_true_eq, decide_eq_false_iff_not, Option.isSome, List.nil_append, List.cons_append, aInt_add, aBin_add, aInt_and, aBin_and, aInt_lss, aBin_lss, aBin_shr, aShift_shr, aConv_int, aIdx_sl, aLoad_ep, aBinW_f, isW_tmp, isW_addc, isW_and, Int.reduceLT, aBinW_dF, cont, aConvS_int, sl3, ty3, un3, un67, sl24, inR64, inRu64, Int.toNat_natCast]
  simp only [IntKind.bits]
  refine ⟨fun hi => ?_, fun hi => ?_⟩
  · have hd := degF_bd (e := e) (n := i) (xs := xs) fun j hj => by have := hb.2 j (by omega); omega
    have hx := hb.2 i (by omega)
    have h2 := bit_bd (x := xs.getD i 0) (e := e) (by omega)
    exact ⟨by omega, by omega, by omega, by omega, by omega, klp_of (i + 1) (by simp [St.conv, St.bf, getE, putE, getB, cv, cvL, cvB, idx, still, pack, lifts, liftOne, liftC, liftK, killB, cellsOfB, setB]; rfl) (by omega) (by omega)⟩
  · have : i = xs.length := by omega
    rw [this]
def lend_impl_DegreeOf : List Nat := []
def sp_impl_DegreeOf : List AV → List Bx → (AV → List Bx → Prop) → Prop
  | [.agg [.int .i64 n, .sl none (.ints .i64 xs)], .int .i64 e], [], K => K (.int .i64 (degI n xs e)) []
  | _, _, _ => False
theorem at_impl_DegreeOf {n : Int} {xs : List Int} {e : Int} {K : AV → List Bx → Prop} : sp_impl_DegreeOf [.agg [.int .i64 n, .sl none (.ints .i64 xs)], .int .i64 e] [] K = (K (.int .i64 (degI n xs e)) []) := id rfl
theorem ok_impl_DegreeOf : ∀ args giv K, sp_impl_DegreeOf args giv K → ∃ r outs, ARuns Tryz.prog 18 args giv r outs ∧ K r outs := by
  intro args giv K hk
  unfold sp_impl_DegreeOf at hk
  split at hk
  · exact ⟨_, _, runs_impl_DegreeOf _ _ _ , hk⟩
  · exact hk.elim
theorem is_spec_ElementsOf : FnIs Tryz.prog 19 18 [.tmp 4] (Tryz.f19.body.getD .skip) := ⟨⟨Tryz.f19, by kernel_rfl, by kernel_rfl, by kernel_rfl, by kernel_rfl⟩, by kernel_rfl, by kernel_rfl⟩
def G_spec_ElementsOf : Gm := (((Gm.none.add 41 lend_spec_l1In sp_spec_l1In).add 42 lend_spec_l2Full sp_spec_l2Full).add 54 lend_spec_l2List sp_spec_l2List)
theorem G_spec_ElementsOf_ok : G_spec_ElementsOf.ok Tryz.prog := (Gm.add_ok (Gm.add_ok (Gm.add_ok Gm.none_ok ok_spec_l1In) ok_spec_l2Full) ok_spec_l2List)
theorem gm_spec_ElementsOf {r : List Oper} {n : Nat} : splB G_spec_ElementsOf r n = true := rfl
theorem gs_spec_ElementsOf_41 : G_spec_ElementsOf.sp 41 = sp_spec_l1In ∧ G_spec_ElementsOf.lend 41 = lend_spec_l1In := ⟨rfl, rfl⟩
theorem gs_spec_ElementsOf_42 : G_spec_ElementsOf.sp 42 = sp_spec_l2Full ∧ G_spec_ElementsOf.lend 42 = lend_spec_l2Full := ⟨rfl, rfl⟩
theorem gs_spec_ElementsOf_54 : G_spec_ElementsOf.sp 54 = sp_spec_l2List ∧ G_spec_ElementsOf.lend 54 = lend_spec_l2List := ⟨rfl, rfl⟩
set_option maxHeartbeats 1000000 in
set_option maxRecDepth 100000 in
theorem runs_spec_ElementsOf (n s : Int) : ARuns Tryz.prog 19 [.int .i64 n, .int .i64 s] [] (.ref 0 (if (inB n 0 10 && inS n s) = true then elemsL s else []).length) [.row 3 (.ints .i64 (if (inB n 0 10 && inS n s) = true then elemsL s else []))] := by
  refine ARuns_bcL G_spec_ElementsOf_ok is_spec_ElementsOf (by simp) fun hl hlB => ?_
  simp only [kcode_at, kreg_at, bc_skip, bc_seq, bc_cond, bc_ret, bc_region, acond_tmp, aCase_t, aCase_b, entryE, inPrm, entryB, Option.getD_some, acall_clo, kcall_nil, selOf, inArgs, inA, inL, okA, okBx, okC, outA, outU, outB, deep, deepL, AV.bid, List.map_nil, List.map_cons, List.all_nil, List.all_cons, BEq.rfl, Bool.and_true, List.append_nil, aops_nil, aops_plain, aops_guard, kont_at, yes_at, no_at, aop_move, aop_assign, aop_pick, aop_buildSlice, aop_unOp, SC0, aop_call, evalE, getE, putE, getB, setB, St.put, setsB, nth, AV.ofV, AV.bid, SC.len, List.length_nil, List.length_cons, Nat.reduceEqDiff, ↓reduceIte, true_and, and_true, Bool.not_eq_true', Bool.not_eq_false', List.nil_append, List.cons_append, aGuardO_some, aGuard_ft, aGuard_ff, aGuard_fb, aPick_t, aPick_f, aUn_b, aBuildL_some, aBuildS_some, rng0, mp_nil, still, dies, lend, snocs, Nat.reduceLeDiff, List.flatMap_nil, Nat.zero_add, BEq.rfl, sl3, sl24, gs_spec_ElementsOf_41, at_spec_l1In, lend_spec_l1In, gs_spec_ElementsOf_42, at_spec_l2Full, lend_spec_l2Full, gs_spec_ElementsOf_54, at_spec_l2List, lend_spec_l2List, Tryz.f19]
  refine ⟨fun h => ?_, fun h => ⟨by rw [inB_t] at h; omega, fun h2 => ?_, fun h2 => ?_⟩⟩
  · rw [h]; exact afinL_of [] [0] rfl rfl (by simp only [resL, resV, resC, getE, putE, getB, setB, lifts, liftOne, liftC, liftK, killB, cellsOfB, List.length_cons, List.length_nil, List.nil_append, List.cons_append, Nat.reduceAdd, Nat.reduceEqDiff, ↓reduceIte, ty3, ty67, ty120, ty118, ty5, ty2, ty21, ty4, ty9, ty24, ty22, ty53, ty26, ty81]; rfl) (by simp [St.conv, St.bf, getE, putE, getB, cv, cvL, cvB, idx, still, pack, lifts, liftOne, liftC, liftK, killB, cellsOfB, setB]) (by simp [St.conv, St.bf, getE, putE, getB, cv, cvL, cvB, idx, still, pack, lifts, liftOne, liftC, liftK, killB, cellsOfB, setB])
  · have e : (inB n 0 10 && inS n s) = false := by rw [inS, h2]; simp
    rw [e]; exact afinL_of [] [0] rfl rfl (by simp only [resL, resV, resC, getE, putE, getB, setB, lifts, liftOne, liftC, liftK, killB, cellsOfB, List.length_cons, List.length_nil, List.nil_append, List.cons_append, Nat.reduceAdd, Nat.reduceEqDiff, ↓reduceIte, ty3, ty67, ty120, ty118, ty5, ty2, ty21, ty4, ty9, ty24, ty22, ty53, ty26, ty81]; rfl) (by simp [St.conv, St.bf, getE, putE, getB, cv, cvL, cvB, idx, still, pack, lifts, liftOne, liftC, liftK, killB, cellsOfB, setB]) (by simp [St.conv, St.bf, getE, putE, getB, cv, cvL, cvB, idx, still, pack, lifts, liftOne, liftC, liftK, killB, cellsOfB, setB])
  · have e : (inB n 0 10 && inS n s) = true := by rw [inS, h, h2]; rfl
    rw [e, if_pos rfl]
    rw [inB_t] at h h2
    have := full_bd h
    exact ⟨by omega, afinL_of [] [0] rfl rfl (by simp only [resL, resV, resC, getE, putE, getB, setB, lifts, liftOne, liftC, liftK, killB, cellsOfB, List.length_cons, List.length_nil, List.nil_append, List.cons_append, Nat.reduceAdd, Nat.reduceEqDiff, ↓reduceIte, ty3, ty67, ty120, ty118, ty5, ty2, ty21, ty4, ty9, ty24, ty22, ty53, ty26, ty81]; rfl) (by simp [St.conv, St.bf, getE, putE, getB, cv, cvL, cvB, idx, still, pack, lifts, liftOne, liftC, liftK, killB, cellsOfB, setB]) (by simp [St.conv, St.bf, getE, putE, getB, cv, cvL, cvB, idx, still, pack, lifts, liftOne, liftC, liftK, killB, cellsOfB, setB])⟩
def lend_spec_ElementsOf : List Nat := []
def sp_spec_ElementsOf : List AV → List Bx → (AV → List Bx → Prop) → Prop
  | [.int .i64 n, .int .i64 s], [], K => K (.ref 0 (if (inB n 0 10 && inS n s) = true then elemsL s else []).length) [.row 3 (.ints .i64 (if (inB n 0 10 && inS n s) = true then elemsL s else []))]
  | _, _, _ => False
theorem at_spec_ElementsOf {n s : Int} {K : AV → List Bx → Prop} : sp_spec_ElementsOf [.int .i64 n, .int .i64 s] [] K = (K (.ref 0 (if (inB n 0 10 && inS n s) = true then elemsL s else []).length) [.row 3 (.ints .i64 (if (inB n 0 10 && inS n s) = true then elemsL s else []))]) := id rfl
theorem ok_spec_ElementsOf : ∀ args giv K, sp_spec_ElementsOf args giv K → ∃ r outs, ARuns Tryz.prog 19 args giv r outs ∧ K r outs := by
  intro args giv K hk
  unfold sp_spec_ElementsOf at hk
  split at hk
  · exact ⟨_, _, runs_spec_ElementsOf _ _ , hk⟩
  · exact hk.elim
theorem is_impl_apart : FnIs Tryz.prog 55 15 [.tmp 4] (Tryz.f55.body.getD .skip) := ⟨⟨Tryz.f55, by kernel_rfl, by kernel_rfl, by kernel_rfl, by kernel_rfl⟩, by kernel_rfl, by kernel_rfl⟩
def G_impl_apart : Gm := Gm.none
theorem G_impl_apart_ok : G_impl_apart.ok Tryz.prog := Gm.none_ok
theorem gm_impl_apart {r : List Oper} {n : Nat} : splB G_impl_apart r n = true := rfl
set_option maxHeartbeats 1000000 in
set_option maxRecDepth 100000 in
theorem runs_impl_apart (a b : Int) : ARuns Tryz.prog 55 [.int .i64 a, .int .i64 b] [] (.bool (apartN a b)) [] := by
  refine ARuns_bc G_impl_apart_ok is_impl_apart (by simp) fun hl hlB => ?_
  simp only [kcode_at, kreg_at, bc_seq, bc_ret, bc_region, afin_nil, cvE_some, resL, resV, cv, pack, entryE, inPrm, entryB, Option.getD_some, aops_nil, aops_plain, aops_guard, kont_at, yes_at, no_at, aop_move, aop_assign, aop_pick, aop_binOp, evalE, getE, putE, getB, St.put, setsB, nth, AV.ofV, List.length_nil, Nat.reduceEqDiff, ↓reduceIte, true_and, decide_eq_true_eq, Bool.not_eq_true', Bool.not_eq_false', decide_eq_false_iff_not, List.nil_append, List.cons_append, aGuardO_some, aGuard_tt, aGuard_tf, aGuard_tb, aPick_t, aPick_f, aInt_andNot, aBin_andNot, aInt_neq, aBin_neq, aBinW_f, isW_tmp, isW_neq, Nat.zero_add, un3, Tryz.f55]
  refine ⟨fun h => ?_, fun h => by rw [apartN_f fun x => x.1 h]⟩
  by_cases h2 : bandn .i64 b a = 0
  · rw [apartN_f fun x => x.2 h2, decide_eq_true h2]; rfl
  · rw [apartN_t ⟨h, h2⟩, decide_eq_false h2]; rfl
def lend_impl_apart : List Nat := []
def sp_impl_apart : List AV → List Bx → (AV → List Bx → Prop) → Prop
  | [.int .i64 a, .int .i64 b], [], K => K (.bool (apartN a b)) []
  | _, _, _ => False
theorem at_impl_apart {a b : Int} {K : AV → List Bx → Prop} : sp_impl_apart [.int .i64 a, .int .i64 b] [] K = (K (.bool (apartN a b)) []) := id rfl
theorem ok_impl_apart : ∀ args giv K, sp_impl_apart args giv K → ∃ r outs, ARuns Tryz.prog 55 args giv r outs ∧ K r outs := by
  intro args giv K hk
  unfold sp_impl_apart at hk
  split at hk
  · exact ⟨_, _, runs_impl_apart _ _ , hk⟩
  · exact hk.elim
theorem is_impl_IsAntichain : FnIs Tryz.prog 20 33 [.tmp 2] (Tryz.f20.body.getD .skip) := ⟨⟨Tryz.f20, by kernel_rfl, by kernel_rfl, by kernel_rfl, by kernel_rfl⟩, by kernel_rfl, by kernel_rfl⟩
def G_impl_IsAntichain : Gm := ((Gm.none.add 10 lend_impl_IsFamily sp_impl_IsFamily).add 55 lend_impl_apart sp_impl_apart)
theorem G_impl_IsAntichain_ok : G_impl_IsAntichain.ok Tryz.prog := (Gm.add_ok (Gm.add_ok Gm.none_ok ok_impl_IsFamily) ok_impl_apart)
theorem gm_impl_IsAntichain {r : List Oper} {n : Nat} : splB G_impl_IsAntichain r n = true := rfl
theorem gs_impl_IsAntichain_10 : G_impl_IsAntichain.sp 10 = sp_impl_IsFamily ∧ G_impl_IsAntichain.lend 10 = lend_impl_IsFamily := ⟨rfl, rfl⟩
theorem gs_impl_IsAntichain_55 : G_impl_IsAntichain.sp 55 = sp_impl_apart ∧ G_impl_IsAntichain.lend 55 = lend_impl_apart := ⟨rfl, rfl⟩
set_option maxHeartbeats 1000000 in
set_option maxRecDepth 100000 in
theorem runs_impl_IsAntichain (n : Int) (xs : List Int) : ARuns Tryz.prog 20 [.agg [.int .i64 n, .sl none (.ints .i64 xs)]] [] (.bool (famB n xs && antiB xs)) [] := by
  refine ARuns_bc G_impl_IsAntichain_ok is_impl_IsAntichain (by simp) fun hl hlB => ?_
  simp only [kcode_at, kreg_at, bc_skip, bc_seq, bc_cond, bc_block, bc_ret, bc_region, acond_tmp, aCase_b, afin_nil, cvE_some, resL, resV, cv, pack, entryE, inPrm, entryB, Option.getD_some, acall_clo, kcall_nil, selOf, inArgs, inA, inL, okA, outA, outU, deep, deepL, List.map_nil, List.map_cons, List.all_nil, List.all_cons, BEq.rfl, Bool.and_true, List.append_nil, aops_nil, aops_plain, kont_at, aop_move, aop_assign, aop_box, aop_load, aop_unOp, aop_fieldAddr, aop_len, SC0, aop_call, evalE, getE, putE, getB, setB, St.put, setsB, AV.ofV, AV.blk, SC.len, List.length_nil, List.length_cons, Nat.reduceEqDiff, Nat.reduceAdd, ↓reduceIte, true_and, and_true, Bool.not_eq_true', Bool.not_eq_false', List.nil_append, List.cons_append, aBox_some, aUn_b, aField_ptr, aLen_sl, aLoad_1b, aLoad_fb, lend, AV.cells, List.getD_cons_zero, List.getD_cons_succ, Nat.reduceLT, Nat.zero_add, BEq.rfl, ty24, un24, ty26, sl26, gs_impl_IsAntichain_10, at_impl_IsFamily, lend_impl_IsFamily, Tryz.f20]
  simp only [lensA, lenA, lenSC] at hl
  refine ⟨fun h => by rw [h]; rfl, fun hf => ?_⟩
  rw [hf, Bool.true_and]
  refine bc_loop (fun i : Nat => i ≤ xs.length ∧ ∀ k, k < i → (allN k fun j => apartN (xs.getD k 0) (xs.getD j 0)) = true)
    (fun i => ⟨[(1, .ptr 0 0), (11, .sl none (.ints .i64 xs)), (12, .int .i64 xs.length), (13, .int .i64 i)], [.box [.int .i64 n, .sl none (.ints .i64 xs)]]⟩) (fun i => xs.length - i)
    [1, 11, 12, 13] [0] 0 rfl (by simp [St.conv, St.bf, getE, putE, getB, cv, cvL, cvB, idx, still, pack, lifts, liftOne, liftC, liftK, killB, cellsOfB, setB]) (by simp) fun i ⟨h1, h2⟩ => ?_
  simp only [kcode_at, kreg_at, bc_skip, bc_seq, bc_cond, bc_block, bc_exit, bc_ret, bc_region, lkX_cons, acond_tmp, aCase_b, afin_nil, cvE_some, resL, resV, cv, pack, AV.bid, aops_nil, aops_plain, kont_at, aop_move, aop_assign, aop_load, aop_binOp, aop_fieldAddr, aop_indexAddr, aop_slice, aop_len, evalE, getE, putE, getB, St.put, setsB, AV.ofV, AV.blk, AV.bid, SC.len, SC.get, List.length_nil, List.length_cons, Nat.reduceEqDiff, Nat.reduceAdd, ↓reduceIte, true_and, decide_eq_true_eq, decide_eq_false_iff_not, Option.isSome, List.nil_append, List.cons_append, aInt_lss, aBin_lss, aField_ptr, aIdx_sl, aLen_sl, aLoad_1b, aLoad_ep, aSlice_h, aBinW_f, isW_tmp, SC.take, cont, dies, List.getD_cons_zero, List.getD_cons_succ, Nat.reduceLT, Option.map_some, Option.map_none, Nat.zero_add, aCut_sl, ty3, un3, sl24, ty24, un24, ty26, Int.toNat_natCast]
  refine ⟨fun hi => ⟨by omega, by omega, ?_⟩, fun hi => ?_⟩
  · have el : (xs.take i).length = i := by rw [List.length_take]; omega
    refine bc_loop (fun j : Nat => j ≤ i ∧ ∀ k, k < j → apartN (xs.getD i 0) (xs.getD k 0) = true)
      (fun j => ⟨[(1, .ptr 0 0), (4, .int .i64 (xs.getD i 0)), (11, .sl none (.ints .i64 xs)), (12, .int .i64 xs.length), (13, .int .i64 i), (21, .sl none (.ints .i64 (xs.take i))), (22, .int .i64 i), (23, .int .i64 j)], [.box [.int .i64 n, .sl none (.ints .i64 xs)]]⟩) (fun j => i - j)
      [1, 4, 11, 12, 13, 21, 22, 23] [0] 0 rfl (by simp [St.conv, St.bf, getE, putE, getB, cv, cvL, cvB, idx, still, pack, lifts, liftOne, liftC, liftK, killB, cellsOfB, setB]; omega) (by simp) fun j ⟨h3, h4⟩ => ?_
    simp only [kcode_at, kreg_at, bc_skip, bc_seq, bc_cond, bc_block, bc_exit, bc_ret, bc_region, lkX_cons, acond_tmp, aCase_b, afin_nil, cvE_some, resL, resV, cv, pack, acall_clo, kcall_nil, selOf, inArgs, inA, inL, okA, outA, outU, deep, deepL, List.map_nil, List.map_cons, List.all_nil, List.all_cons, BEq.rfl, Bool.and_true, List.append_nil, aops_nil, aops_plain, kont_at, aop_move, aop_assign, aop_load, aop_binOp, aop_unOp, aop_indexAddr, SC0, aop_call, evalE, getE, putE, getB, St.put, setsB, AV.ofV, AV.blk, SC.len, SC.get, List.length_nil, List.length_cons, Nat.reduceEqDiff, ↓reduceIte, true_and, and_true, decide_eq_true_eq, Bool.not_eq_true', Bool.not_eq_false', decide_eq_false_iff_not, Option.isSome, List.nil_append, List.cons_append, aInt_add, aBin_add, aInt_lss, aBin_lss, aUn_b, aIdx_sl, aLoad_ep, aBinW_f, isW_tmp, isW_addc, Int.reduceLT, aBinW_dF, lend, Nat.zero_add, BEq.rfl, sl3, ty3, un3, sl24, inR64, gs_impl_IsAntichain_55, at_impl_apart, lend_impl_apart, Int.toNat_natCast, el]
    refine ⟨fun hj => ?_, fun hj => ⟨by omega, ?_⟩⟩
    · have eg : (xs.take i).getD j 0 = xs.getD j 0 := by
        rw [List.getD_eq_getElem?_getD, List.getElem?_take, if_pos (by omega), ← List.getD_eq_getElem?_getD]
      rw [eg]
      refine ⟨by omega, fun hf => ?_, fun ht => ⟨by omega, ?_⟩⟩
      · rw [antiB, allN_f i (by omega) (allN_f j (by omega) hf)]
      · exact klp_of (j + 1) (by simp [St.conv, St.bf, getE, putE, getB, cv, cvL, cvB, idx, still, pack, lifts, liftOne, liftC, liftK, killB, cellsOfB, setB]) ⟨by omega, upto_succ h4 ht⟩ (by omega)
    · exact klp_of (i + 1) (by simp [St.conv, St.bf, getE, putE, getB, cv, cvL, cvB, idx, still, pack, lifts, liftOne, liftC, liftK, killB, cellsOfB, setB]) ⟨by omega, upto_succ h2 (allN_t fun k hk => h4 k (by omega))⟩ (by omega)
  · have : i = xs.length := by omega
    subst this
    rw [antiB, allN_t h2]
def lend_impl_IsAntichain : List Nat := []
def sp_impl_IsAntichain : List AV → List Bx → (AV → List Bx → Prop) → Prop
  | [.agg [.int .i64 n, .sl none (.ints .i64 xs)]], [], K => K (.bool (famB n xs && antiB xs)) []
  | _, _, _ => False
theorem at_impl_IsAntichain {n : Int} {xs : List Int} {K : AV → List Bx → Prop} : sp_impl_IsAntichain [.agg [.int .i64 n, .sl none (.ints .i64 xs)]] [] K = (K (.bool (famB n xs && antiB xs)) []) := id rfl
theorem ok_impl_IsAntichain : ∀ args giv K, sp_impl_IsAntichain args giv K → ∃ r outs, ARuns Tryz.prog 20 args giv r outs ∧ K r outs := by
  intro args giv K hk
  unfold sp_impl_IsAntichain at hk
  split at hk
  · exact ⟨_, _, runs_impl_IsAntichain _ _ , hk⟩
  · exact hk.elim
theorem is_spec_DrawFamilyOf : FnIs Tryz.prog 21 28 [.tmp 2, .tmp 3] (Tryz.f21.body.getD .skip) := ⟨⟨Tryz.f21, by kernel_rfl, by kernel_rfl, by kernel_rfl, by kernel_rfl⟩, by kernel_rfl, by kernel_rfl⟩
def G_spec_DrawFamilyOf : Gm := (((Gm.none.add 37 lend_spec_l1New sp_spec_l1New).add 56 lend_spec_l1PickInt sp_spec_l1PickInt).add 57 lend_spec_l1Below sp_spec_l1Below)
theorem G_spec_DrawFamilyOf_ok : G_spec_DrawFamilyOf.ok Tryz.prog := (Gm.add_ok (Gm.add_ok (Gm.add_ok Gm.none_ok ok_spec_l1New) ok_spec_l1PickInt) ok_spec_l1Below)
theorem gm_spec_DrawFamilyOf {r : List Oper} {n : Nat} : splB G_spec_DrawFamilyOf r n = true := rfl
theorem gs_spec_DrawFamilyOf_37 : G_spec_DrawFamilyOf.sp 37 = sp_spec_l1New ∧ G_spec_DrawFamilyOf.lend 37 = lend_spec_l1New := ⟨rfl, rfl⟩
theorem gs_spec_DrawFamilyOf_56 : G_spec_DrawFamilyOf.sp 56 = sp_spec_l1PickInt ∧ G_spec_DrawFamilyOf.lend 56 = lend_spec_l1PickInt := ⟨rfl, rfl⟩
theorem gs_spec_DrawFamilyOf_57 : G_spec_DrawFamilyOf.sp 57 = sp_spec_l1Below ∧ G_spec_DrawFamilyOf.lend 57 = lend_spec_l1Below := ⟨rfl, rfl⟩
set_option maxHeartbeats 1000000 in
set_option maxRecDepth 100000 in
theorem runs_spec_DrawFamilyOf (bs : List Int) (hp1 : OkBs bs) : ARuns Tryz.prog 21 [.sl none (.ints .u8 bs)] [] (.tup [.int .i64 (dfN bs), .ref 0 (dfX bs).length]) [.row 3 (.ints .i64 (dfX bs))] := by
  refine ARuns_bc G_spec_DrawFamilyOf_ok is_spec_DrawFamilyOf (by simp) fun hl hlB => ?_
  simp only [kcode_at, kreg_at, bc_seq, bc_block, bc_region, entryE, inPrm, entryB, bxCells, Option.getD_some, acall_clo, kcall_nil, selOf, selA, inArgs, inA, inL, okA, okL, okBx, outA, outL, outU, outB, deep, deepL, boxIds, AV.bid, List.map_nil, List.map_cons, List.all_nil, List.all_cons, BEq.rfl, Bool.and_true, List.append_nil, aops_nil, aops_plain, kont_at, aop_move, aop_assign, aop_buildSlice, SC0, aop_call, evalE, getE, putE, getB, setB, St.put, setsB, AV.ofV, AV.bid, SC.len, List.length_nil, List.length_cons, Nat.reduceEqDiff, Nat.reduceAdd, ↓reduceIte, true_and, and_true, List.nil_append, List.cons_append, aBuildL_some, aBuildS_some, rng0, mp_nil, mp_one0, kcall_one, liveB_box, idx, cont, still, dies, lend, lendA, lendDies, snocs, SC.snoc, List.getD_cons_zero, List.getD_cons_succ, Nat.le_refl, Nat.reduceLT, Nat.reduceLeDiff, Option.map_none, List.flatMap_nil, List.flatMap_cons, Nat.zero_add, BEq.rfl, sl3, sl24, sl22, sl51, gs_spec_DrawFamilyOf_37, at_spec_l1New, lend_spec_l1New, gs_spec_DrawFamilyOf_56, at_spec_l1PickInt, lend_spec_l1PickInt, gs_spec_DrawFamilyOf_57, at_spec_l1Below, lend_spec_l1Below, cu_eta, Tryz.f21]
  have e7 : belowC bs (newC bs) ((7 : Nat) : Int) = dfC0 bs := rfl
  have eK : belowV bs (dfC0 bs) 6 = dfK bs := rfl
  have eC : belowC bs (dfC0 bs) 6 = dfC bs 0 := rfl
  have eX : dfX bs = dfL bs (dfK bs).toNat := rfl
  have hk := @dfK_bd bs
  rw [e7, eK, eC, eX]
  refine ⟨hp1, rfl, hp1, newC_nn, hp1, dfC0_nn, ?_⟩
  have eN : pickV bs (newC bs) [5, 4, 6, 3, 0, -1, 7] = dfN bs := rfl
  rw [eN]
  generalize dfK bs = k at *
  refine bc_loop (fun j : Nat => (j : Int) ≤ k)
    (fun j => ⟨[(4, .ptr 0 0), (5, .int .i64 (dfN bs)), (6, .ref 2 j), (7, .int .i64 (k - j))], [.box [.prm 0 (.ints .u8 bs), .int .i64 (dfC bs j).1, .int .i64 (dfC bs j).2], .row 3 (.ints .i64 [5, 4, 6, 3, 0, -1, 7]), .row 3 (.ints .i64 (dfL bs j))]⟩) (fun j => (k - j).toNat)
    [4, 5, 6, 7] [0, 1, 2] 0 rfl (by simp [St.conv, St.bf, getE, putE, getB, cv, cvL, cvB, idx, still, pack, lifts, liftOne, liftC, liftK, killB, cellsOfB, setB]; simp [dfL]) (by omega) fun j hj => ?_
  simp only [kcode_at, kreg_at, bc_skip, bc_seq, bc_cond, bc_block, bc_exit, bc_ret, bc_region, lkX_cons, acond_tmp, aCase_b, bxCells, acall_clo, selOf, selA, inArgs, inA, inL, okA, okL, okBx, outA, outL, outU, outB, deep, deepL, boxIds, AV.bid, List.map_nil, List.map_cons, List.all_nil, List.all_cons, BEq.rfl, Bool.and_true, List.append_nil, aops_nil, aops_plain, kont_at, aop_move, aop_assign, aop_buildSlice, aop_binOp, slTy2, SC0, aop_append, aop_call, evalE, getE, putE, getB, setB, St.put, setsB, AV.ofV, AV.blk, AV.bid, SC.len, List.length_nil, List.length_cons, Nat.reduceEqDiff, Nat.reduceAdd, ↓reduceIte, true_and, and_true, decide_eq_true_eq, decide_eq_false_iff_not, List.nil_append, List.cons_append, aInt_sub, aBin_sub, aInt_gtr, aBin_gtr, aBuildL_some, aBuildS_some, aApp_some, aAppend_ref, aBinW_f, isW_sub, isW_gtr, rng1, mp_one0, kcall_one, liveB_box, idx, cont, still, dies, lend, lendA, lendDies, snocs, SC.snoc, SC.app, List.getD_cons_zero, List.getD_cons_succ, Nat.le_refl, Nat.reduceLT, Nat.reduceLeDiff, List.flatMap_nil, List.flatMap_cons, Nat.zero_add, BEq.rfl, sl3, un3, sl24, sl51, inR64, gs_spec_DrawFamilyOf_57, at_spec_l1Below, lend_spec_l1Below, cu_eta]
  have hln := @dfL_len bs j
  have hcn := @dfC_nn bs j
  have hb := @belowV_bd bs (dfC bs j) 34 (by omega)
  simp only [hln, ↓reduceIte]
  have es : dfL bs j ++ [belowV bs (dfC bs j) 34 - 1] = dfL bs (j + 1) := rfl
  have ec : belowC bs (dfC bs j) 34 = dfC bs (j + 1) := rfl
  rw [es, ec]
  refine ⟨fun h1 => ⟨hp1, hcn, by omega, ⟨trivial, by omega⟩, by omega, klp_of (j + 1) (by simp [St.conv, St.bf, getE, putE, getB, cv, cvL, cvB, idx, still, pack, lifts, liftOne, liftC, liftK, killB, cellsOfB, setB]; omega) (by omega) (by omega)⟩, fun h1 => ?_⟩
  have ej : k.toNat = j := by omega
  rw [ej, hln]
  exact afin_of [2] rfl (by simp only [resL, resV, resC, getE, putE, getB, setB, lifts, liftOne, liftC, liftK, killB, cellsOfB, List.length_cons, List.length_nil, List.nil_append, List.cons_append, Nat.reduceAdd, Nat.reduceEqDiff, ↓reduceIte, ty3, ty67, ty120, ty118, ty5, ty2, ty21, ty4, ty9, ty24, ty22, ty53, ty26, ty81]; rfl) (by simp [St.conv, St.bf, getE, putE, getB, cv, cvL, cvB, idx, still, pack, lifts, liftOne, liftC, liftK, killB, cellsOfB, setB]) (by simp [St.conv, St.bf, getE, putE, getB, cv, cvL, cvB, idx, still, pack, lifts, liftOne, liftC, liftK, killB, cellsOfB, setB])
def lend_spec_DrawFamilyOf : List Nat := []
def sp_spec_DrawFamilyOf : List AV → List Bx → (AV → List Bx → Prop) → Prop
  | [.sl none (.ints .u8 bs)], [], K => (OkBs bs) ∧ K (.tup [.int .i64 (dfN bs), .ref 0 (dfX bs).length]) [.row 3 (.ints .i64 (dfX bs))]
  | _, _, _ => False
theorem at_spec_DrawFamilyOf {bs : List Int} {K : AV → List Bx → Prop} : sp_spec_DrawFamilyOf [.sl none (.ints .u8 bs)] [] K = ((OkBs bs) ∧ K (.tup [.int .i64 (dfN bs), .ref 0 (dfX bs).length]) [.row 3 (.ints .i64 (dfX bs))]) := id rfl
theorem ok_spec_DrawFamilyOf : ∀ args giv K, sp_spec_DrawFamilyOf args giv K → ∃ r outs, ARuns Tryz.prog 21 args giv r outs ∧ K r outs := by
  intro args giv K hk
  unfold sp_spec_DrawFamilyOf at hk
  split at hk
  · obtain ⟨hp1, hk⟩ := hk; exact ⟨_, _, runs_spec_DrawFamilyOf _ hp1, hk⟩
  · exact hk.elim
theorem is_slices_Clone_int_int : FnIs Tryz.prog 81 8 [.tmp 2] (Tryz.f81.body.getD .skip) := ⟨⟨Tryz.f81, by kernel_rfl, by kernel_rfl, by kernel_rfl, by kernel_rfl⟩, by kernel_rfl, by kernel_rfl⟩
def G_slices_Clone_int_int : Gm := Gm.none
theorem G_slices_Clone_int_int_ok : G_slices_Clone_int_int.ok Tryz.prog := Gm.none_ok
theorem gm_slices_Clone_int_int {r : List Oper} {n : Nat} : splB G_slices_Clone_int_int r n = true := rfl
set_option maxHeartbeats 1000000 in
set_option maxRecDepth 100000 in
theorem runs_slices_Clone_int_int (xs : List Int) (hp1 : xs.length ≤ 1099511627776) : ARuns Tryz.prog 81 [.sl none (.ints .i64 xs)] [] (.ref 0 xs.length) [.row 3 (.ints .i64 xs)] := by
  exact ARuns_clone is_slices_Clone_int_int.callable (fun b off n c zs w h1 h2 h3 => Tryz.slices_Clone_int b off n c zs w h1 h2 h3) (fun n c w => Tryz.slices_Clone_int_nil n c w) (fun a c w => Tryz.slices_Clone_int_zero a c w) hp1
def lend_slices_Clone_int_int : List Nat := []
def sp_slices_Clone_int_int : List AV → List Bx → (AV → List Bx → Prop) → Prop
  | [.sl none (.ints .i64 xs)], [], K => (xs.length ≤ 1099511627776) ∧ K (.ref 0 xs.length) [.row 3 (.ints .i64 xs)]
  | _, _, _ => False
theorem at_slices_Clone_int_int {xs : List Int} {K : AV → List Bx → Prop} : sp_slices_Clone_int_int [.sl none (.ints .i64 xs)] [] K = ((xs.length ≤ 1099511627776) ∧ K (.ref 0 xs.length) [.row 3 (.ints .i64 xs)]) := id rfl
theorem ok_slices_Clone_int_int : ∀ args giv K, sp_slices_Clone_int_int args giv K → ∃ r outs, ARuns Tryz.prog 81 args giv r outs ∧ K r outs := by
  intro args giv K hk
  unfold sp_slices_Clone_int_int at hk
  split at hk
  · obtain ⟨hp1, hk⟩ := hk; exact ⟨_, _, runs_slices_Clone_int_int _ hp1, hk⟩
  · exact hk.elim
theorem is_slices_Sort_int_int : FnIs Tryz.prog 82 11 [] (Tryz.f82.body.getD .skip) := ⟨⟨Tryz.f82, by kernel_rfl, by kernel_rfl, by kernel_rfl, by kernel_rfl⟩, by kernel_rfl, by kernel_rfl⟩
def G_slices_Sort_int_int : Gm := Gm.none
theorem G_slices_Sort_int_int_ok : G_slices_Sort_int_int.ok Tryz.prog := Gm.none_ok
theorem gm_slices_Sort_int_int {r : List Oper} {n : Nat} : splB G_slices_Sort_int_int r n = true := rfl
set_option maxHeartbeats 1000000 in
set_option maxRecDepth 100000 in
theorem runs_slices_Sort_int_int (e : TypeId) (n : Nat) (xs : List Int) (hp1 : n = xs.length) (hp2 : xs.length ≤ 1099511627776) : ARuns Tryz.prog 82 [.ref 0 n] [.row e (.ints .i64 xs)] (.tup []) [.row e (.ints .i64 (xs.mergeSort fun x y => decide (x ≤ y)))] := by
  exact ARuns_place is_slices_Sort_int_int.callable hp1 (List.length_mergeSort _) (fun blk cap w h1 h2 => Tryz.slices_Sort_int blk 0 cap xs w h1 h2 (by omega)) (fun _ p cap w => Tryz.slices_Sort_int_none p cap w)
def lend_slices_Sort_int_int : List Nat := [0]
def sp_slices_Sort_int_int : List AV → List Bx → (AV → List Bx → Prop) → Prop
  | [.ref 0 n], [.row e (.ints .i64 xs)], K => (n = xs.length) ∧ (xs.length ≤ 1099511627776) ∧ K (.tup []) [.row e (.ints .i64 (xs.mergeSort fun x y => decide (x ≤ y)))]
  | _, _, _ => False
theorem at_slices_Sort_int_int {e : TypeId} {n : Nat} {xs : List Int} {K : AV → List Bx → Prop} : sp_slices_Sort_int_int [.ref 0 n] [.row e (.ints .i64 xs)] K = ((n = xs.length) ∧ (xs.length ≤ 1099511627776) ∧ K (.tup []) [.row e (.ints .i64 (xs.mergeSort fun x y => decide (x ≤ y)))]) := id rfl
theorem ok_slices_Sort_int_int : ∀ args giv K, sp_slices_Sort_int_int args giv K → ∃ r outs, ARuns Tryz.prog 82 args giv r outs ∧ K r outs := by
  intro args giv K hk
  unfold sp_slices_Sort_int_int at hk
  split at hk
  · obtain ⟨hp1, hp2, hk⟩ := hk; exact ⟨_, _, runs_slices_Sort_int_int _ _ _ hp1 hp2, hk⟩
  · exact hk.elim
theorem is_slices_Clip_int_int : FnIs Tryz.prog 83 9 [.tmp 2] (Tryz.f83.body.getD .skip) := ⟨⟨Tryz.f83, by kernel_rfl, by kernel_rfl, by kernel_rfl, by kernel_rfl⟩, by kernel_rfl, by kernel_rfl⟩
def G_slices_Clip_int_int : Gm := Gm.none
theorem G_slices_Clip_int_int_ok : G_slices_Clip_int_int.ok Tryz.prog := Gm.none_ok
theorem gm_slices_Clip_int_int {r : List Oper} {n : Nat} : splB G_slices_Clip_int_int r n = true := rfl
set_option maxHeartbeats 1000000 in
set_option maxRecDepth 100000 in
theorem runs_slices_Clip_int_int (n : Nat) (xs : List Int) (hp1 : n = xs.length) : ARuns Tryz.prog 83 [.ref 0 n] [.row 3 (.ints .i64 xs)] (.ref 1 xs.length) [.gone, .row 3 (.ints .i64 xs)] := by
  refine ARuns_bc G_slices_Clip_int_int_ok is_slices_Clip_int_int (by simp) fun hl hlB => ?_
  simp only [kcode_at, kreg_at, bc_seq, bc_ret, bc_region, entryE, inPrm, entryB, Option.getD_some, aops_nil, aops_plain, kont_at, aop_move, aop_assign, aop_len, evalE, getE, putE, getB, setB, St.put, setsB, AV.ofV, AV.blk, SC.len, List.length_nil, List.length_cons, Nat.reduceEqDiff, Nat.reduceAdd, ↓reduceIte, true_and, List.nil_append, List.cons_append, aLen_ref, aop_slice3, aSlice3_r, SC.take, Option.map_some, Option.map_none, Nat.zero_add, sl24, un24, Tryz.f83]
  subst hp1
  rw [Int.toNat_natCast, List.take_length]
  exact ⟨by omega, afin_of [0, 1] rfl rfl (by simp [St.conv, St.bf, getE, putE, getB, cv, cvL, cvB, idx, still, pack, lifts, liftOne, liftC, liftK, killB, cellsOfB, setB]) (by simp [St.conv, St.bf, getE, putE, getB, cv, cvL, cvB, idx, still, pack, lifts, liftOne, liftC, liftK, killB, cellsOfB, setB])⟩
def lend_slices_Clip_int_int : List Nat := [0]
def sp_slices_Clip_int_int : List AV → List Bx → (AV → List Bx → Prop) → Prop
  | [.ref 0 n], [.row 3 (.ints .i64 xs)], K => (n = xs.length) ∧ K (.ref 1 xs.length) [.gone, .row 3 (.ints .i64 xs)]
  | _, _, _ => False
theorem at_slices_Clip_int_int {n : Nat} {xs : List Int} {K : AV → List Bx → Prop} : sp_slices_Clip_int_int [.ref 0 n] [.row 3 (.ints .i64 xs)] K = ((n = xs.length) ∧ K (.ref 1 xs.length) [.gone, .row 3 (.ints .i64 xs)]) := id rfl
theorem ok_slices_Clip_int_int : ∀ args giv K, sp_slices_Clip_int_int args giv K → ∃ r outs, ARuns Tryz.prog 83 args giv r outs ∧ K r outs := by
  intro args giv K hk
  unfold sp_slices_Clip_int_int at hk
  split at hk
  · obtain ⟨hp1, hk⟩ := hk; exact ⟨_, _, runs_slices_Clip_int_int _ _ hp1, hk⟩
  · exact hk.elim
theorem is_slices_Compact_int_int : FnIs Tryz.prog 84 61 [.tmp 2] (Tryz.f84.body.getD .skip) := ⟨⟨Tryz.f84, by kernel_rfl, by kernel_rfl, by kernel_rfl, by kernel_rfl⟩, by kernel_rfl, by kernel_rfl⟩
def G_slices_Compact_int_int : Gm := Gm.none
theorem G_slices_Compact_int_int_ok : G_slices_Compact_int_int.ok Tryz.prog := Gm.none_ok
theorem gm_slices_Compact_int_int {r : List Oper} {n : Nat} : splB G_slices_Compact_int_int r n = true := rfl
set_option maxHeartbeats 1000000 in
set_option maxRecDepth 100000 in
theorem runs_slices_Compact_int_int (e : TypeId) (n : Nat) (xs : List Int) (hp1 : n = xs.length) (hp2 : xs.length ≤ 1099511627776) : ARuns Tryz.prog 84 [.ref 0 n] [.row e (.ints .i64 xs)] (.ref 1 (Lib.compact xs).length) [.gone, .row e (.ints .i64 (Lib.compact xs))] := by
  exact ARuns_compact is_slices_Compact_int_int.callable (fun blk off cap zs w h1 h2 h3 => Tryz.slices_Compact_int blk off cap zs w h1 h2 h3) (fun a cap w => Tryz.slices_Compact_int_empty a cap w) hp1 hp2
def lend_slices_Compact_int_int : List Nat := [0]
def sp_slices_Compact_int_int : List AV → List Bx → (AV → List Bx → Prop) → Prop
  | [.ref 0 n], [.row e (.ints .i64 xs)], K => (n = xs.length) ∧ (xs.length ≤ 1099511627776) ∧ K (.ref 1 (Lib.compact xs).length) [.gone, .row e (.ints .i64 (Lib.compact xs))]
  | _, _, _ => False
theorem at_slices_Compact_int_int {e : TypeId} {n : Nat} {xs : List Int} {K : AV → List Bx → Prop} : sp_slices_Compact_int_int [.ref 0 n] [.row e (.ints .i64 xs)] K = ((n = xs.length) ∧ (xs.length ≤ 1099511627776) ∧ K (.ref 1 (Lib.compact xs).length) [.gone, .row e (.ints .i64 (Lib.compact xs))]) := id rfl
theorem ok_slices_Compact_int_int : ∀ args giv K, sp_slices_Compact_int_int args giv K → ∃ r outs, ARuns Tryz.prog 84 args giv r outs ∧ K r outs := by
  intro args giv K hk
  unfold sp_slices_Compact_int_int at hk
  split at hk
  · obtain ⟨hp1, hp2, hk⟩ := hk; exact ⟨_, _, runs_slices_Compact_int_int _ _ _ hp1 hp2, hk⟩
  · exact hk.elim
theorem is_impl_gather : FnIs Tryz.prog 58 15 [ResultVar.cell 4 26] (Tryz.f58.body.getD .skip) := ⟨⟨Tryz.f58, by kernel_rfl, by kernel_rfl, by kernel_rfl, by kernel_rfl⟩, by kernel_rfl, by kernel_rfl⟩
def G_impl_gather : Gm := ((((Gm.none.add 81 lend_slices_Clone_int_int sp_slices_Clone_int_int).add 82 lend_slices_Sort_int_int sp_slices_Sort_int_int).add 83 lend_slices_Clip_int_int sp_slices_Clip_int_int).add 84 lend_slices_Compact_int_int sp_slices_Compact_int_int)
theorem G_impl_gather_ok : G_impl_gather.ok Tryz.prog := (Gm.add_ok (Gm.add_ok (Gm.add_ok (Gm.add_ok Gm.none_ok ok_slices_Clone_int_int) ok_slices_Sort_int_int) ok_slices_Clip_int_int) ok_slices_Compact_int_int)
theorem gm_impl_gather {r : List Oper} {n : Nat} : splB G_impl_gather r n = true := rfl
theorem gs_impl_gather_81 : G_impl_gather.sp 81 = sp_slices_Clone_int_int ∧ G_impl_gather.lend 81 = lend_slices_Clone_int_int := ⟨rfl, rfl⟩
theorem gs_impl_gather_82 : G_impl_gather.sp 82 = sp_slices_Sort_int_int ∧ G_impl_gather.lend 82 = lend_slices_Sort_int_int := ⟨rfl, rfl⟩
theorem gs_impl_gather_83 : G_impl_gather.sp 83 = sp_slices_Clip_int_int ∧ G_impl_gather.lend 83 = lend_slices_Clip_int_int := ⟨rfl, rfl⟩
theorem gs_impl_gather_84 : G_impl_gather.sp 84 = sp_slices_Compact_int_int ∧ G_impl_gather.lend 84 = lend_slices_Compact_int_int := ⟨rfl, rfl⟩
set_option maxHeartbeats 1000000 in
set_option maxRecDepth 100000 in
theorem runs_impl_gather (n : Int) (l : List Int) (hp1 : l.length ≤ 1099511627776) : ARuns Tryz.prog 58 [.int .i64 n, .sl none (.ints .i64 l)] [] (.agg [.int .i64 n, .ref 0 (gathL l).length]) [.row 3 (.ints .i64 (gathL l))] := by
  refine ARuns_bc G_impl_gather_ok is_impl_gather (by simp) fun hl hlB => ?_
  simp only [kcode_at, kreg_at, bc_seq, bc_ret, bc_region, entryE, inPrm, entryB, Option.getD_some, acall_clo, kcall_nil, selOf, selA, inArgs, inA, inL, okA, okL, okBx, okC, outA, outL, outU, outB, deep, deepL, boxIds, List.map_nil, List.map_cons, List.all_nil, List.all_cons, BEq.rfl, Bool.and_true, List.append_nil, aops_nil, aops_plain, kont_at, aop_move, aop_assign, aop_alloc, aop_build, aop_store, SC0, aop_call, evalE, getE, putE, getB, setB, St.put, setsB, AV.ofV, AV.blk, AV.one, SC.len, List.length_nil, List.length_cons, Nat.reduceEqDiff, Nat.reduceAdd, ↓reduceIte, true_and, and_true, List.nil_append, List.cons_append, aAlloc_flat, aBuild_flat, aStore_f, mp_nil, mp_one0, mp_one1, kcall_one, liveB_row, idx, lend, lendDies, fillA, List.getD_cons_zero, List.set_cons_zero, List.set_cons_succ, Nat.le_refl, Nat.reduceLT, Nat.reduceLeDiff, Nat.zero_add, BEq.rfl, sl24, ty26, gs_impl_gather_81, at_slices_Clone_int_int, lend_slices_Clone_int_int, gs_impl_gather_82, at_slices_Sort_int_int, lend_slices_Sort_int_int, gs_impl_gather_83, at_slices_Clip_int_int, lend_slices_Clip_int_int, gs_impl_gather_84, at_slices_Compact_int_int, lend_slices_Compact_int_int, Tryz.f58]
  have hm := List.length_mergeSort (le := fun x y : Int => decide (x ≤ y)) l
  exact ⟨hp1, hp1, hm.symm, by omega, rfl, afin_of [3] rfl (by simp only [resL, resV, resC, getE, putE, getB, setB, lifts, liftOne, liftC, liftK, killB, cellsOfB, List.length_cons, List.length_nil, List.nil_append, List.cons_append, Nat.reduceAdd, Nat.reduceEqDiff, ↓reduceIte, ty3, ty67, ty120, ty118, ty5, ty2, ty21, ty4, ty9, ty24, ty22, ty53, ty26, ty81]; rfl) (by simp [St.conv, St.bf, getE, putE, getB, cv, cvL, cvB, idx, still, pack, lifts, liftOne, liftC, liftK, killB, cellsOfB, setB]; rfl) (by simp [St.conv, St.bf, getE, putE, getB, cv, cvL, cvB, idx, still, pack, lifts, liftOne, liftC, liftK, killB, cellsOfB, setB]; rfl)⟩
def lend_impl_gather : List Nat := []
def sp_impl_gather : List AV → List Bx → (AV → List Bx → Prop) → Prop
  | [.int .i64 n, .sl none (.ints .i64 l)], [], K => (l.length ≤ 1099511627776) ∧ K (.agg [.int .i64 n, .ref 0 (gathL l).length]) [.row 3 (.ints .i64 (gathL l))]
  | _, _, _ => False
theorem at_impl_gather {n : Int} {l : List Int} {K : AV → List Bx → Prop} : sp_impl_gather [.int .i64 n, .sl none (.ints .i64 l)] [] K = ((l.length ≤ 1099511627776) ∧ K (.agg [.int .i64 n, .ref 0 (gathL l).length]) [.row 3 (.ints .i64 (gathL l))]) := id rfl
theorem ok_impl_gather : ∀ args giv K, sp_impl_gather args giv K → ∃ r outs, ARuns Tryz.prog 58 args giv r outs ∧ K r outs := by
  intro args giv K hk
  unfold sp_impl_gather at hk
  split at hk
  · obtain ⟨hp1, hk⟩ := hk; exact ⟨_, _, runs_impl_gather _ _ hp1, hk⟩
  · exact hk.elim
theorem is_impl_FamilyOf : FnIs Tryz.prog 22 19 [ResultVar.cell 4 26, .tmp 5] (Tryz.f22.body.getD .skip) := ⟨⟨Tryz.f22, by kernel_rfl, by kernel_rfl, by kernel_rfl, by kernel_rfl⟩, by kernel_rfl, by kernel_rfl⟩
def G_impl_FamilyOf : Gm := ((Gm.none.add 43 lend_impl_areSets sp_impl_areSets).add 58 lend_impl_gather sp_impl_gather)
theorem G_impl_FamilyOf_ok : G_impl_FamilyOf.ok Tryz.prog := (Gm.add_ok (Gm.add_ok Gm.none_ok ok_impl_areSets) ok_impl_gather)
theorem gm_impl_FamilyOf {r : List Oper} {n : Nat} : splB G_impl_FamilyOf r n = true := rfl
theorem gs_impl_FamilyOf_43 : G_impl_FamilyOf.sp 43 = sp_impl_areSets ∧ G_impl_FamilyOf.lend 43 = lend_impl_areSets := ⟨rfl, rfl⟩
theorem gs_impl_FamilyOf_58 : G_impl_FamilyOf.sp 58 = sp_impl_gather ∧ G_impl_FamilyOf.lend 58 = lend_impl_gather := ⟨rfl, rfl⟩
set_option maxHeartbeats 1000000 in
set_option maxRecDepth 100000 in
theorem runs_impl_FamilyOf (n : Int) (l : List Int) (hp1 : l.length ≤ 1048576) : ARuns Tryz.prog 22 [.int .i64 n, .sl none (.ints .i64 l)] [] (.tup [.agg [.int .i64 (foN n l), .ref 0 (foL n l).length], .bool (foB n l)]) [.row 3 (.ints .i64 (foL n l))] := by
  refine ARuns_bc G_impl_FamilyOf_ok is_impl_FamilyOf (by simp) fun hl hlB => ?_
  simp only [kcode_at, kreg_at, bc_skip, bc_seq, bc_cond, bc_ret, bc_region, acond_tmp, aCase_t, aCase_b, entryE, inPrm, entryB, Option.getD_some, acall_clo, kcall_nil, selOf, inArgs, inA, inL, okA, okL, okBx, okC, outA, outL, outU, outB, deep, deepL, List.map_nil, List.map_cons, List.all_nil, List.all_cons, BEq.rfl, Bool.and_true, List.append_nil, aops_nil, aops_plain, aops_guard, kont_at, yes_at, no_at, aop_move, aop_assign, aop_pick, aop_alloc, aop_build, aop_store, aop_binOp, aop_unOp, aop_len, SC0, aop_call, evalE, getE, putE, getB, setB, St.put, setsB, nth, AV.ofV, AV.blk, AV.one, SC.len, List.length_nil, List.length_cons, Nat.reduceEqDiff, Nat.reduceAdd, ↓reduceIte, true_and, and_true, decide_eq_true_eq, Bool.not_eq_true', Bool.not_eq_false', decide_eq_false_iff_not, List.nil_append, List.cons_append, aGuardO_some, aGuard_ft, aGuard_ff, aGuard_fb, aPick_t, aPick_f, aAlloc_flat, aBuild_flat, aInt_gtr, aBin_gtr, aUn_b, aLen_prm, aStore_f, aBinW_f, isW_gtr, mp_nil, lend, fillA, Nat.zero_add, BEq.rfl, sl3, un3, sl24, un24, ty26, gs_impl_FamilyOf_43, at_impl_areSets, lend_impl_areSets, gs_impl_FamilyOf_58, at_impl_gather, lend_impl_gather, Tryz.f22]
  refine ⟨fun h => ?_, fun h => ⟨fun h2 => ?_, fun h2 => ⟨by omega, ?_⟩⟩⟩
  · have hB : foB n l = false := by unfold foB; rw [decide_eq_false (by omega)]; rfl
    rw [(fo_f hB).1, (fo_f hB).2, hB]
    exact afin_ofN [(1000001, 3, .ints .i64 [])] [1] rfl rfl (by simp only [resL, resV, resC, getE, putE, getB, setB, lifts, liftOne, liftC, liftK, killB, cellsOfB, List.length_cons, List.length_nil, List.nil_append, List.cons_append, Nat.reduceAdd, Nat.reduceEqDiff, ↓reduceIte, ty3, ty67, ty120, ty118, ty5, ty2, ty21, ty4, ty9, ty24, ty22, ty53, ty26, ty81]; rfl) (by simp [St.conv, St.bf, getE, putE, getB, cv, cvL, cvB, idx, still, pack, lifts, liftOne, liftC, liftK, killB, cellsOfB, setB]) (by simp [St.conv, St.bf, getE, putE, getB, cv, cvL, cvB, idx, still, pack, lifts, liftOne, liftC, liftK, killB, cellsOfB, setB])
  · have hB : foB n l = false := by unfold foB; rw [h2]; simp
    rw [(fo_f hB).1, (fo_f hB).2, hB]
    exact afin_ofN [(1000001, 3, .ints .i64 [])] [1] rfl rfl (by simp only [resL, resV, resC, getE, putE, getB, setB, lifts, liftOne, liftC, liftK, killB, cellsOfB, List.length_cons, List.length_nil, List.nil_append, List.cons_append, Nat.reduceAdd, Nat.reduceEqDiff, ↓reduceIte, ty3, ty67, ty120, ty118, ty5, ty2, ty21, ty4, ty9, ty24, ty22, ty53, ty26, ty81]; rfl) (by simp [St.conv, St.bf, getE, putE, getB, cv, cvL, cvB, idx, still, pack, lifts, liftOne, liftC, liftK, killB, cellsOfB, setB]) (by simp [St.conv, St.bf, getE, putE, getB, cv, cvL, cvB, idx, still, pack, lifts, liftOne, liftC, liftK, killB, cellsOfB, setB])
  · have hB : foB n l = true := by unfold foB; rw [h2, decide_eq_true (by omega)]; rfl
    rw [(fo_t hB).1, (fo_t hB).2, hB]
    exact afin_of [1] rfl (by simp only [resL, resV, resC, getE, putE, getB, setB, lifts, liftOne, liftC, liftK, killB, cellsOfB, List.length_cons, List.length_nil, List.nil_append, List.cons_append, Nat.reduceAdd, Nat.reduceEqDiff, ↓reduceIte, ty3, ty67, ty120, ty118, ty5, ty2, ty21, ty4, ty9, ty24, ty22, ty53, ty26, ty81]; rfl) (by simp [St.conv, St.bf, getE, putE, getB, cv, cvL, cvB, idx, still, pack, lifts, liftOne, liftC, liftK, killB, cellsOfB, setB]) (by simp [St.conv, St.bf, getE, putE, getB, cv, cvL, cvB, idx, still, pack, lifts, liftOne, liftC, liftK, killB, cellsOfB, setB])
def lend_impl_FamilyOf : List Nat := []
def sp_impl_FamilyOf : List AV → List Bx → (AV → List Bx → Prop) → Prop
  | [.int .i64 n, .sl none (.ints .i64 l)], [], K => (l.length ≤ 1048576) ∧ K (.tup [.agg [.int .i64 (foN n l), .ref 0 (foL n l).length], .bool (foB n l)]) [.row 3 (.ints .i64 (foL n l))]
  | _, _, _ => False
theorem at_impl_FamilyOf {n : Int} {l : List Int} {K : AV → List Bx → Prop} : sp_impl_FamilyOf [.int .i64 n, .sl none (.ints .i64 l)] [] K = ((l.length ≤ 1048576) ∧ K (.tup [.agg [.int .i64 (foN n l), .ref 0 (foL n l).length], .bool (foB n l)]) [.row 3 (.ints .i64 (foL n l))]) := id rfl
theorem ok_impl_FamilyOf : ∀ args giv K, sp_impl_FamilyOf args giv K → ∃ r outs, ARuns Tryz.prog 22 args giv r outs ∧ K r outs := by
  intro args giv K hk
  unfold sp_impl_FamilyOf at hk
  split at hk
  · obtain ⟨hp1, hk⟩ := hk; exact ⟨_, _, runs_impl_FamilyOf _ _ hp1, hk⟩
  · exact hk.elim
theorem is_spec_FamilyOf : FnIs Tryz.prog 23 42 [ResultVar.cell 4 26, .tmp 5] (Tryz.f23.body.getD .skip) := ⟨⟨Tryz.f23, by kernel_rfl, by kernel_rfl, by kernel_rfl, by kernel_rfl⟩, by kernel_rfl, by kernel_rfl⟩
def G_spec_FamilyOf : Gm := (((Gm.none.add 41 lend_spec_l1In sp_spec_l1In).add 42 lend_spec_l2Full sp_spec_l2Full).add 59 lend_spec_l15Put sp_spec_l15Put)
theorem G_spec_FamilyOf_ok : G_spec_FamilyOf.ok Tryz.prog := (Gm.add_ok (Gm.add_ok (Gm.add_ok Gm.none_ok ok_spec_l1In) ok_spec_l2Full) ok_spec_l15Put)
theorem gm_spec_FamilyOf {r : List Oper} {n : Nat} : splB G_spec_FamilyOf r n = true := rfl
theorem gs_spec_FamilyOf_41 : G_spec_FamilyOf.sp 41 = sp_spec_l1In ∧ G_spec_FamilyOf.lend 41 = lend_spec_l1In := ⟨rfl, rfl⟩
theorem gs_spec_FamilyOf_42 : G_spec_FamilyOf.sp 42 = sp_spec_l2Full ∧ G_spec_FamilyOf.lend 42 = lend_spec_l2Full := ⟨rfl, rfl⟩
theorem gs_spec_FamilyOf_59 : G_spec_FamilyOf.sp 59 = sp_spec_l15Put ∧ G_spec_FamilyOf.lend 59 = lend_spec_l15Put := ⟨rfl, rfl⟩
set_option maxHeartbeats 1000000 in
set_option maxRecDepth 100000 in
theorem runs_spec_FamilyOf (n : Int) (l : List Int) (hp1 : l.length ≤ 1048576) : ARuns Tryz.prog 23 [.int .i64 n, .sl none (.ints .i64 l)] [] (.tup [.agg [.int .i64 (foN n l), .ref 0 (fsL n l).length], .bool (foB n l)]) [.row 3 (.ints .i64 (fsL n l))] := by
  refine ARuns_bc G_spec_FamilyOf_ok is_spec_FamilyOf (by simp) fun hl hlB => ?_
  simp only [kcode_at, kreg_at, bc_skip, bc_seq, bc_cond, bc_block, bc_ret, bc_region, acond_tmp, aCase_t, aCase_b, entryE, inPrm, entryB, Option.getD_some, acall_clo, kcall_nil, selOf, inArgs, inA, inL, okA, outA, outU, deep, deepL, AV.bid, List.map_nil, List.map_cons, List.all_nil, List.all_cons, BEq.rfl, Bool.and_true, List.append_nil, aops_nil, aops_plain, aops_guard, kont_at, yes_at, no_at, aop_move, aop_assign, aop_pick, aop_alloc, aop_build, aop_buildSlice, aop_store, aop_binOp, aop_unOp, aop_len, SC0, aop_call, evalE, getE, putE, getB, setB, St.put, setsB, nth, AV.ofV, AV.blk, AV.bid, AV.one, SC.len, List.length_nil, List.length_cons, Nat.reduceEqDiff, Nat.reduceAdd, ↓reduceIte, true_and, and_true, decide_eq_true_eq, Bool.not_eq_true', Bool.not_eq_false', decide_eq_false_iff_not, List.nil_append, List.cons_append, aGuardO_some, aGuard_ft, aGuard_ff, aGuard_fb, aPick_t, aPick_f, aAlloc_flat, aBuild_flat, aInt_gtr, aBin_gtr, aUn_b, aLen_prm, aBuildL_some, aBuildS_some, aStore_f, aBinW_f, isW_gtr, rng0, still, dies, lend, snocs, fillA, Nat.reduceLeDiff, List.flatMap_nil, Nat.zero_add, BEq.rfl, sl3, un3, sl24, un24, ty26, gs_spec_FamilyOf_41, at_spec_l1In, lend_spec_l1In, Tryz.f23]
  refine ⟨fun h => ?_, fun hn => ⟨fun h2 => ?_, fun h2 => ?_⟩⟩
  · have hB : foB n l = false := by unfold foB setsOk; rw [h]; simp
    rw [(fo_f hB).1, (fs_f hB), hB]
    exact afin_ofN [(1000001, 3, .ints .i64 [])] [2] rfl rfl (by simp only [resL, resV, resC, getE, putE, getB, setB, lifts, liftOne, liftC, liftK, killB, cellsOfB, List.length_cons, List.length_nil, List.nil_append, List.cons_append, Nat.reduceAdd, Nat.reduceEqDiff, ↓reduceIte, ty3, ty67, ty120, ty118, ty5, ty2, ty21, ty4, ty9, ty24, ty22, ty53, ty26, ty81]; rfl) (by simp [St.conv, St.bf, getE, putE, getB, cv, cvL, cvB, idx, still, pack, lifts, liftOne, liftC, liftK, killB, cellsOfB, setB]) (by simp [St.conv, St.bf, getE, putE, getB, cv, cvL, cvB, idx, still, pack, lifts, liftOne, liftC, liftK, killB, cellsOfB, setB])
  · have hB : foB n l = false := by unfold foB; rw [decide_eq_false (by omega)]; rfl
    rw [(fo_f hB).1, (fs_f hB), hB]
    exact afin_ofN [(1000001, 3, .ints .i64 [])] [2] rfl rfl (by simp only [resL, resV, resC, getE, putE, getB, setB, lifts, liftOne, liftC, liftK, killB, cellsOfB, List.length_cons, List.length_nil, List.nil_append, List.cons_append, Nat.reduceAdd, Nat.reduceEqDiff, ↓reduceIte, ty3, ty67, ty120, ty118, ty5, ty2, ty21, ty4, ty9, ty24, ty22, ty53, ty26, ty81]; rfl) (by simp [St.conv, St.bf, getE, putE, getB, cv, cvL, cvB, idx, still, pack, lifts, liftOne, liftC, liftK, killB, cellsOfB, setB]) (by simp [St.conv, St.bf, getE, putE, getB, cv, cvL, cvB, idx, still, pack, lifts, liftOne, liftC, liftK, killB, cellsOfB, setB])
  have hn6 := hn
  rw [inB_t] at hn6
  refine bc_loop (fun k : Nat => k ≤ l.length ∧ ∀ j, j < k → inS n (l.getD j 0) = true)
    (fun k => ⟨[(0, .int .i64 n), (1, .prm 1 (.ints .i64 l)), (4, .ptr 0 0), (6, .ref 1 (puts l k).length), (7, .int .i64 k)], [.box [.int .i64 0, .nil], .row 3 (.ints .i64 (puts l k))]⟩) (fun k => l.length - k)
    [0, 1, 4, 6, 7] [0, 1] 0 rfl (by simp [St.conv, St.bf, getE, putE, getB, cv, cvL, cvB, idx, still, pack, lifts, liftOne, liftC, liftK, killB, cellsOfB, setB]; simp [puts]) (by simp) fun k hk => ?_
  obtain ⟨hk1, hk2⟩ := hk
  simp only [kcode_at, kreg_at, bc_skip, bc_seq, bc_cond, bc_block, bc_exit, bc_ret, bc_region, lkX_cons, acond_tmp, aCase_t, aCase_f, aCase_b, acall_clo, kcall_nil, selOf, inArgs, inA, inL, okA, okBx, okC, outA, outU, outB, deep, deepL, List.map_nil, List.map_cons, List.all_nil, List.all_cons, BEq.rfl, Bool.and_true, List.append_nil, aops_nil, aops_plain, kont_at, aop_move, aop_assign, aop_build, aop_load, aop_store, aop_binOp, aop_unOp, aop_indexAddr, aop_len, SC0, aop_call, evalE, getE, putE, getB, setB, St.put, setsB, AV.ofV, AV.blk, AV.one, SC.len, SC.get, List.length_nil, List.length_cons, Nat.reduceEqDiff, Nat.reduceAdd, ↓reduceIte, true_and, and_true, decide_eq_true_eq, decide_eq_false_iff_not, Option.isSome, List.nil_append, List.cons_append, aBuild_flat, aInt_add, aBin_add, aInt_lss, aBin_lss, aUn_t, aUn_f, aIdx_prm, aLen_prm, aLoad_ep, aStore_f, aBinW_f, isW_tmp, isW_addc, Int.reduceLT, aBinW_dF, bc_draw, kregD_at, aopsD_nil, aopsD_plain, kontD_at, splW_t, contD_at, splD_bool, splD_int, splD_tt, splD_ff, splD_prm, splD_ep, addTr_nil, regR_nil, mp_nil, idx, cont, lend, fillA, List.getD_cons_zero, List.set_cons_zero, List.set_cons_succ, Nat.reduceLT, Nat.zero_add, BEq.rfl, sl3, ty3, un3, sl24, un24, ty26, inR64, gm_spec_FamilyOf, gs_spec_FamilyOf_41, at_spec_l1In, lend_spec_l1In, gs_spec_FamilyOf_42, at_spec_l2Full, lend_spec_l2Full, gs_spec_FamilyOf_59, at_spec_l15Put, lend_spec_l15Put, Int.toNat_natCast]
  have hpl := @puts_len l k
  have hup := fun h => upto_succ (p := fun j => inS n (l.getD j 0)) (i := k) hk2 h
  refine ⟨fun h1 => ⟨by omega, by omega, fun h3 => ⟨by omega, by omega, fun hh => ⟨by omega, klp_of (k + 1) ?_ ⟨by omega, hup h3⟩ (by omega)⟩, fun hh => ⟨by omega, klp_ofK [0, 2] rfl (k + 1) ?_ ⟨by omega, hup h3⟩ (by omega)⟩⟩, fun h3 => ?_⟩, fun h1 => ⟨by simp, ?_⟩⟩
  · rw [puts_s (by omega), putL_t hh]; simp [St.conv, St.bf, getE, putE, getB, cv, cvL, cvB, idx, still, pack, lifts, liftOne, liftC, liftK, killB, cellsOfB, setB]
  · rw [puts_s (by omega)]; simp [St.conv, St.bf, getE, putE, getB, cv, cvL, cvB, idx, still, pack, lifts, liftOne, liftC, liftK, killB, cellsOfB, setB]
  · have hB : foB n l = false := by
      unfold foB setsOk
      rw [allN_f k (by omega) (show inS n (l.getD k 0) = false from h3)]; simp
    rw [(fo_f hB).1, (fs_f hB), hB]
    exact afin_ofN [(1000001, 3, .ints .i64 [])] [2] rfl rfl (by simp only [resL, resV, resC, getE, putE, getB, setB, lifts, liftOne, liftC, liftK, killB, cellsOfB, List.length_cons, List.length_nil, List.nil_append, List.cons_append, Nat.reduceAdd, Nat.reduceEqDiff, ↓reduceIte, ty3, ty67, ty120, ty118, ty5, ty2, ty21, ty4, ty9, ty24, ty22, ty53, ty26, ty81]; rfl) (by simp [St.conv, St.bf, getE, putE, getB, cv, cvL, cvB, idx, still, pack, lifts, liftOne, liftC, liftK, killB, cellsOfB, setB]) (by simp [St.conv, St.bf, getE, putE, getB, cv, cvL, cvB, idx, still, pack, lifts, liftOne, liftC, liftK, killB, cellsOfB, setB])
  · obtain rfl : k = l.length := by omega
    have hB : foB n l = true := by
      unfold foB setsOk
      rw [hn, allN_t hk2, decide_eq_true (by omega)]; rfl
    rw [(fo_t hB).1, (fs_t hB), hB]
    exact afin_of [1] rfl (by simp only [resL, resV, resC, getE, putE, getB, setB, lifts, liftOne, liftC, liftK, killB, cellsOfB, List.length_cons, List.length_nil, List.nil_append, List.cons_append, Nat.reduceAdd, Nat.reduceEqDiff, ↓reduceIte, ty3, ty67, ty120, ty118, ty5, ty2, ty21, ty4, ty9, ty24, ty22, ty53, ty26, ty81]; rfl) (by simp [St.conv, St.bf, getE, putE, getB, cv, cvL, cvB, idx, still, pack, lifts, liftOne, liftC, liftK, killB, cellsOfB, setB]) (by simp [St.conv, St.bf, getE, putE, getB, cv, cvL, cvB, idx, still, pack, lifts, liftOne, liftC, liftK, killB, cellsOfB, setB])
def lend_spec_FamilyOf : List Nat := []
def sp_spec_FamilyOf : List AV → List Bx → (AV → List Bx → Prop) → Prop
  | [.int .i64 n, .sl none (.ints .i64 l)], [], K => (l.length ≤ 1048576) ∧ K (.tup [.agg [.int .i64 (foN n l), .ref 0 (fsL n l).length], .bool (foB n l)]) [.row 3 (.ints .i64 (fsL n l))]
  | _, _, _ => False
theorem at_spec_FamilyOf {n : Int} {l : List Int} {K : AV → List Bx → Prop} : sp_spec_FamilyOf [.int .i64 n, .sl none (.ints .i64 l)] [] K = ((l.length ≤ 1048576) ∧ K (.tup [.agg [.int .i64 (foN n l), .ref 0 (fsL n l).length], .bool (foB n l)]) [.row 3 (.ints .i64 (fsL n l))]) := id rfl
theorem ok_spec_FamilyOf : ∀ args giv K, sp_spec_FamilyOf args giv K → ∃ r outs, ARuns Tryz.prog 23 args giv r outs ∧ K r outs := by
  intro args giv K hk
  unfold sp_spec_FamilyOf at hk
  split at hk
  · obtain ⟨hp1, hk⟩ := hk; exact ⟨_, _, runs_spec_FamilyOf _ _ hp1, hk⟩
  · exact hk.elim
theorem is_spec_l1Text : FnIs Tryz.prog 85 38 [.tmp 4] (Tryz.f85.body.getD .skip) := ⟨⟨Tryz.f85, by kernel_rfl, by kernel_rfl, by kernel_rfl, by kernel_rfl⟩, by kernel_rfl, by kernel_rfl⟩
def G_spec_l1Text : Gm := ((Gm.none.add 57 lend_spec_l1Below sp_spec_l1Below).add 80 lend_spec_l1Byte sp_spec_l1Byte)
theorem G_spec_l1Text_ok : G_spec_l1Text.ok Tryz.prog := (Gm.add_ok (Gm.add_ok Gm.none_ok ok_spec_l1Below) ok_spec_l1Byte)
theorem gm_spec_l1Text {r : List Oper} {n : Nat} : splB G_spec_l1Text r n = true := rfl
theorem gs_spec_l1Text_57 : G_spec_l1Text.sp 57 = sp_spec_l1Below ∧ G_spec_l1Text.lend 57 = lend_spec_l1Below := ⟨rfl, rfl⟩
theorem gs_spec_l1Text_80 : G_spec_l1Text.sp 80 = sp_spec_l1Byte ∧ G_spec_l1Text.lend 80 = lend_spec_l1Byte := ⟨rfl, rfl⟩
set_option maxHeartbeats 1000000 in
set_option maxRecDepth 100000 in
theorem runs_spec_l1Text (bs : List Int) (i h m : Int) (hp1 : OkBs bs) (hp2 : 0 ≤ i) (hp3 : 0 ≤ m ∧ m ≤ 1000) : ARuns Tryz.prog 85 [.ptr 0 0, .int .i64 m] [.box [.sl none (.ints .u8 bs), .int .i64 i, .int .i64 h]] (.str (bst (textV bs (i, h) m))) [.box [.prm 2 (.ints .u8 bs), .int .i64 (textC bs (i, h) m).1, .int .i64 (textC bs (i, h) m).2]] := by
  refine ARuns_bc G_spec_l1Text_ok is_spec_l1Text (by simp) fun hl hlB => ?_
  simp only [kcode_at, kreg_at, bc_seq, bc_block, bc_region, entryE, inPrm, entryB, inPrms, bxCells, Option.getD_some, acall_clo, selOf, selA, inArgs, inA, inL, okA, okL, okBx, outA, outL, outU, outB, deep, deepL, boxIds, AV.bid, List.map_nil, List.map_cons, List.all_nil, List.all_cons, BEq.rfl, Bool.and_true, List.append_nil, aops_nil, aops_plain, kont_at, aop_move, aop_assign, aop_buildSlice, aop_binOp, SC0, aop_call, evalE, getE, putE, getB, setB, St.put, setsB, AV.ofV, AV.bid, SC.len, List.length_nil, List.length_cons, Nat.reduceEqDiff, Nat.reduceAdd, ↓reduceIte, true_and, and_true, List.nil_append, List.cons_append, aInt_add, aBin_add, aBuildL_some, aBuildS_some, isW_addc, Int.reduceLT, aBinW_dF, rng0, mp_one0, kcall_one, liveB_box, idx, still, dies, lend, lendA, lendDies, snocs, List.getD_cons_zero, List.getD_cons_succ, Nat.le_refl, Nat.reduceLT, Nat.reduceLeDiff, List.flatMap_nil, List.flatMap_cons, Nat.zero_add, BEq.rfl, bst_mk, sl3, un3, sl22, sl51, inR64, gs_spec_l1Text_57, at_spec_l1Below, lend_spec_l1Below, cu_eta, Tryz.f85]
  have c1 := @belowC_nn bs (i, h) 4 hp2
  have hst := @belowV_bd bs (i, h) 4 (by omega)
  have hk := @textK_bd bs (i, h) m hp3.1
  have hd : 0 ≤ (textD bs (i, h) m).1 := belowC_nn c1
  refine ⟨hp1, hp2, by omega, hp1, c1, ?_⟩
  have eV : textV bs (i, h) m = toB (txL bs (belowV bs (i, h) 4) (textD bs (i, h) m) (textK bs (i, h) m).toNat) := rfl
  have eC : textC bs (i, h) m = txC bs (textD bs (i, h) m) (textK bs (i, h) m).toNat := rfl
  have eK : belowV bs (belowC bs (i, h) 4) (m + 1) = textK bs (i, h) m := rfl
  have eD : belowC bs (belowC bs (i, h) 4) (m + 1) = textD bs (i, h) m := rfl
  rw [eV, eC, eK, eD]
  generalize belowV bs (i, h) 4 = st at *
  generalize textK bs (i, h) m = k at *
  generalize textD bs (i, h) m = d at *
  refine bc_loop (fun j : Nat => (j : Int) ≤ k)
    (fun j => ⟨[(0, .ptr 0 0), (5, .ref 1 j), (6, .int .i64 st), (7, .int .i64 (k - j))], [.box [.prm 2 (.ints .u8 bs), .int .i64 (txC bs d j).1, .int .i64 (txC bs d j).2], .row 5 (.ints .u8 (txL bs st d j))]⟩) (fun j => (k - j).toNat)
    [0, 5, 6, 7] [0, 1] 0 rfl (by simp [St.conv, St.bf, getE, putE, getB, cv, cvL, cvB, idx, still, pack, lifts, liftOne, liftC, liftK, killB, cellsOfB, setB]; simp [txC, txL]) (by omega) fun j hj => ?_
  simp only [kcode_at, kreg_at, bc_skip, bc_seq, bc_cond, bc_block, bc_exit, bc_region, lkX_cons, acond_tmp, aCase_b, bxCells, acall_clo, selOf, selA, inArgs, inA, inL, okA, okL, okBx, outA, outL, outU, outB, deep, deepL, boxIds, AV.bid, List.map_nil, List.map_cons, List.all_nil, List.all_cons, BEq.rfl, Bool.and_true, List.append_nil, aops_nil, aops_plain, kont_at, aop_move, aop_assign, aop_buildSlice, aop_binOp, aop_convert, slTy2, SC0, aop_append, aop_call, evalE, getE, putE, getB, setB, St.put, setsB, AV.ofV, AV.blk, AV.bid, SC.len, List.length_nil, List.length_cons, Nat.reduceEqDiff, Nat.reduceAdd, ↓reduceIte, true_and, and_true, decide_eq_true_eq, decide_eq_false_iff_not, List.nil_append, List.cons_append, aInt_add, aBin_add, aInt_sub, aBin_sub, aInt_rem, aBin_rem, aInt_eql, aBin_eql, aInt_gtr, aBin_gtr, aConv_int, aBuildL_some, aBuildS_some, aApp_some, aAppend_ref, aBinW_f, isW_tmp, isW_sub, isW_rem, isW_eql, isW_gtr, rng1, mp_one0, kcall_one, liveB_box, idx, cont, still, dies, lend, lendA, lendDies, snocs, SC.snoc, SC.app, List.getD_cons_zero, List.getD_cons_succ, Nat.le_refl, Nat.reduceLT, Nat.reduceLeDiff, List.flatMap_nil, List.flatMap_cons, Nat.zero_add, BEq.rfl, aConvS_int, aConvS_str, sl3, un3, un5, un9, sl22, un22, sl51, inR64, gs_spec_l1Text_80, at_spec_l1Byte, lend_spec_l1Byte, cu_eta, inRu8]
  have hln := @txL_len bs st d j
  have hcn := @txC_nn bs d hd j
  have hb := @byteV_bd bs (txC bs d j)
  simp only [hln, ↓reduceIte]
  have es : ∀ x, x = txB st (byteV bs (txC bs d j)) → txL bs st d j ++ [x] = txL bs st d (j + 1) := fun x hx => by rw [hx]; rfl
  have ec : byteC bs (txC bs d j) = txC bs d (j + 1) := rfl
  have t2 := tmod_bd (a := byteV bs (txC bs d j)) (n := 2) hb.1 (by omega)
  have t4 := tmod_bd (a := byteV bs (txC bs d j)) (n := 4) hb.1 (by omega)
  rw [ec]
  refine ⟨fun h1 => ⟨hp1, hcn, fun h2 => ⟨by decide, fun h3 => absurd h3 (by omega), fun h3 => ?_⟩, fun h2 => ⟨fun h3 => ⟨by decide, by omega, by omega, ⟨trivial, by omega⟩, by omega, ?_⟩, fun h3 => ?_⟩⟩, fun h1 => ?_⟩
  · rw [es _ (by unfold txB; rw [if_pos h2])]
    refine ⟨by omega, ⟨trivial, by omega⟩, by omega, klp_of (j + 1) (by simp [St.conv, St.bf, getE, putE, getB, cv, cvL, cvB, idx, still, pack, lifts, liftOne, liftC, liftK, killB, cellsOfB, setB]; omega) (by omega) (by omega)⟩
  · rw [es _ (by unfold txB; rw [if_neg h2, if_pos h3])]
    exact klp_of (j + 1) (by simp [St.conv, St.bf, getE, putE, getB, cv, cvL, cvB, idx, still, pack, lifts, liftOne, liftC, liftK, killB, cellsOfB, setB]; omega) (by omega) (by omega)
  · rw [es _ (by unfold txB; rw [if_neg h2, if_neg h3])]
    refine ⟨by omega, ⟨trivial, by omega⟩, by omega, klp_of (j + 1) (by simp [St.conv, St.bf, getE, putE, getB, cv, cvL, cvB, idx, still, pack, lifts, liftOne, liftC, liftK, killB, cellsOfB, setB]; omega) (by omega) (by omega)⟩
  · have ej : k.toNat = j := by omega
    rw [ej]
    have et : (txL bs st d j).map (fun n => UInt8.ofNat n.toNat) = toB (txL bs st d j) := rfl
    simp only [kcode_at, kreg_at, bc_ret, aops_nil, aops_plain, kont_at, aop_assign, evalE, getE, putE, St.put, setsB, List.length_nil, List.length_cons, Nat.reduceEqDiff, Nat.reduceAdd, ↓reduceIte, List.nil_append, List.cons_append, Nat.zero_add, aToStr_at, bst_nums, et]
    exact afin_of [0] rfl rfl (by simp [St.conv, St.bf, getE, putE, getB, cv, cvL, cvB, idx, still, pack, lifts, liftOne, liftC, liftK, killB, cellsOfB, setB]) (by simp [St.conv, St.bf, getE, putE, getB, cv, cvL, cvB, idx, still, pack, lifts, liftOne, liftC, liftK, killB, cellsOfB, setB])
def lend_spec_l1Text : List Nat := [0]
def sp_spec_l1Text : List AV → List Bx → (AV → List Bx → Prop) → Prop
  | [.ptr 0 0, .int .i64 m], [.box [.sl none (.ints .u8 bs), .int .i64 i, .int .i64 h]], K => (OkBs bs) ∧ (0 ≤ i) ∧ (0 ≤ m ∧ m ≤ 1000) ∧ K (.str (bst (textV bs (i, h) m))) [.box [.prm 2 (.ints .u8 bs), .int .i64 (textC bs (i, h) m).1, .int .i64 (textC bs (i, h) m).2]]
  | _, _, _ => False
theorem at_spec_l1Text {bs : List Int} {i h m : Int} {K : AV → List Bx → Prop} : sp_spec_l1Text [.ptr 0 0, .int .i64 m] [.box [.sl none (.ints .u8 bs), .int .i64 i, .int .i64 h]] K = ((OkBs bs) ∧ (0 ≤ i) ∧ (0 ≤ m ∧ m ≤ 1000) ∧ K (.str (bst (textV bs (i, h) m))) [.box [.prm 2 (.ints .u8 bs), .int .i64 (textC bs (i, h) m).1, .int .i64 (textC bs (i, h) m).2]]) := id rfl
theorem ok_spec_l1Text : ∀ args giv K, sp_spec_l1Text args giv K → ∃ r outs, ARuns Tryz.prog 85 args giv r outs ∧ K r outs := by
  intro args giv K hk
  unfold sp_spec_l1Text at hk
  split at hk
  · obtain ⟨hp1, hp2, hp3, hk⟩ := hk; exact ⟨_, _, runs_spec_l1Text _ _ _ _ hp1 hp2 hp3, hk⟩
  · exact hk.elim
theorem is_spec_l1Spoil : FnIs Tryz.prog 60 67 [.tmp 4] (Tryz.f60.body.getD .skip) := ⟨⟨Tryz.f60, by kernel_rfl, by kernel_rfl, by kernel_rfl, by kernel_rfl⟩, by kernel_rfl, by kernel_rfl⟩
def G_spec_l1Spoil : Gm := (((Gm.none.add 57 lend_spec_l1Below sp_spec_l1Below).add 80 lend_spec_l1Byte sp_spec_l1Byte).add 85 lend_spec_l1Text sp_spec_l1Text)
theorem G_spec_l1Spoil_ok : G_spec_l1Spoil.ok Tryz.prog := (Gm.add_ok (Gm.add_ok (Gm.add_ok Gm.none_ok ok_spec_l1Below) ok_spec_l1Byte) ok_spec_l1Text)
theorem gm_spec_l1Spoil {r : List Oper} {n : Nat} : splB G_spec_l1Spoil r n = true := rfl
theorem gs_spec_l1Spoil_57 : G_spec_l1Spoil.sp 57 = sp_spec_l1Below ∧ G_spec_l1Spoil.lend 57 = lend_spec_l1Below := ⟨rfl, rfl⟩
theorem gs_spec_l1Spoil_80 : G_spec_l1Spoil.sp 80 = sp_spec_l1Byte ∧ G_spec_l1Spoil.lend 80 = lend_spec_l1Byte := ⟨rfl, rfl⟩
theorem gs_spec_l1Spoil_85 : G_spec_l1Spoil.sp 85 = sp_spec_l1Text ∧ G_spec_l1Spoil.lend 85 = lend_spec_l1Text := ⟨rfl, rfl⟩
set_option maxHeartbeats 1000000 in
set_option maxRecDepth 100000 in
theorem runs_spec_l1Spoil (bs : List Int) (i h : Int) (s : List UInt8) (hp1 : OkBs bs) (hp2 : 0 ≤ i) (hp3 : s.length ≤ 1000000) : ARuns Tryz.prog 60 [.ptr 0 0, .str (bst s)] [.box [.sl none (.ints .u8 bs), .int .i64 i, .int .i64 h]] (.str (bst (spoilV bs (i, h) s))) [.box [.prm 2 (.ints .u8 bs), .int .i64 (spoilC bs (i, h) s).1, .int .i64 (spoilC bs (i, h) s).2]] := by
  refine ARuns_bc G_spec_l1Spoil_ok is_spec_l1Spoil (by simp) fun hl hlB => ?_
  simp only [kcode_at, kreg_at, bc_skip, bc_seq, bc_cond, bc_block, bc_ret, bc_region, acond_tmp, aCase_b, entryE, inPrm, entryB, inPrms, bxCells, Option.getD_some, acall_clo, selOf, selA, inArgs, inA, inL, okA, okL, okBx, outA, outL, outU, outB, deep, deepL, boxIds, AV.bid, List.map_nil, List.map_cons, List.all_nil, List.all_cons, BEq.rfl, Bool.and_true, List.append_nil, aops_nil, aops_plain, kont_at, aop_move, aop_assign, aop_buildSlice, aop_binOp, aop_convert, aop_slice, aop_len, SC0, aop_call, evalE, getE, putE, getB, setB, St.put, setsB, AV.ofV, AV.bid, SC.len, List.length_nil, List.length_cons, Nat.reduceEqDiff, Nat.reduceAdd, ↓reduceIte, true_and, and_true, decide_eq_true_eq, decide_eq_false_iff_not, Option.isSome, List.nil_append, List.cons_append, aInt_add, aBin_add, aInt_xor, aBin_xor, aInt_eql, aBin_eql, aConv_int, aLen_str, aBuildL_some, aBuildS_some, aBinW_f, isW_tmp, isW_addc, isW_eql, Int.reduceLT, aBinW_dF, bc_draw, kregD_at, aopsD_nil, aopsD_plain, kontD_at, splW_t, contD_at, splD_int, splD_str, splD_ref, splD_ptr, addTr_nil, addTr_cons, memQ_nil, memQ_cons, clash_nil, clash_cons, regC_none, regC_nil, regC_cons, regR_nil, regR_cons, rng1, mp_one0, kcall_one, liveB_box, idx, cont, still, dies, lend, lendA, lendDies, snocs, SC.snoc, List.getD_cons_zero, List.getD_cons_succ, Nat.le_refl, Nat.reduceLT, Nat.reduceLeDiff, Option.map_some, Option.map_none, List.flatMap_nil, List.flatMap_cons, Nat.zero_add, BEq.rfl, aBin_sadd, aop_index, aIndex_str, aCut_h, aCut_l, aConvS_int, aConvS_str, aToStr_at, bst_mk, bst_size, bst_add, bst_cut, bst_get, bst_nums, sl3, un3, sl5, un5, sl9, un9, sl22, un22, sl51, inR64, gm_spec_l1Spoil, gs_spec_l1Spoil_57, at_spec_l1Below, lend_spec_l1Below, gs_spec_l1Spoil_80, at_spec_l1Byte, lend_spec_l1Byte, gs_spec_l1Spoil_85, at_spec_l1Text, lend_spec_l1Text, cu_eta, inRu8, List.drop_zero, List.take_length, List.map_cons, List.map_nil, Tryz.f60]
  have eK : belowV bs (i, h) s.length = spK bs (i, h) s := rfl
  have eS : belowV bs (belowC bs (i, h) s.length) 4 = spS bs (i, h) s := rfl
  have eD : belowC bs (belowC bs (i, h) s.length) 4 = spD bs (i, h) s := rfl
  have hk0 := fun h0 => @belowV_bd bs (i, h) s.length h0
  have c1 := @belowC_nn bs (i, h) s.length hp2
  have c2 := @belowC_nn bs (belowC bs (i, h) s.length) 4 c1
  have hy := @byteV_bd bs (spD bs (i, h) s)
  have hz := @belowV_bd bs (spD bs (i, h) s) 255 (by omega)
  rw [eK, eS, eD] at *
  have V0 : s.length = 0 → spoilV bs (i, h) s = textV bs (i, h) 3 ∧ spoilC bs (i, h) s = textC bs (i, h) 3 := fun h0 => by unfold spoilV spoilC; rw [if_pos h0, if_pos h0]; exact ⟨rfl, rfl⟩
  have V1 : ¬ s.length = 0 → spS bs (i, h) s = 0 → spoilV bs (i, h) s = s.take (spK bs (i, h) s).toNat ++ s.drop (spK bs (i, h) s + 1).toNat ∧ spoilC bs (i, h) s = spD bs (i, h) s := fun h0 h1 => by
    unfold spoilV spoilC; rw [if_neg h0, if_neg h0, if_pos h1, if_pos h1]; exact ⟨rfl, rfl⟩
  have V2 : ¬ s.length = 0 → ¬ spS bs (i, h) s = 0 → spS bs (i, h) s = 1 → spoilV bs (i, h) s = (s.take (spK bs (i, h) s).toNat ++ [UInt8.ofNat (byteV bs (spD bs (i, h) s)).toNat]) ++ s.drop (spK bs (i, h) s).toNat ∧ spoilC bs (i, h) s = byteC bs (spD bs (i, h) s) := fun h0 h1 h2 => by
    unfold spoilV spoilC; rw [if_neg h0, if_neg h0, if_neg h1, if_neg h1, if_pos h2, if_pos h2]; exact ⟨rfl, rfl⟩
  have V3 : ¬ s.length = 0 → ¬ spS bs (i, h) s = 0 → ¬ spS bs (i, h) s = 1 → spS bs (i, h) s = 2 → spoilV bs (i, h) s = s.take (spK bs (i, h) s).toNat ∧ spoilC bs (i, h) s = spD bs (i, h) s := fun h0 h1 h2 h3 => by
    unfold spoilV spoilC; rw [if_neg h0, if_neg h0, if_neg h1, if_neg h1, if_neg h2, if_neg h2, if_pos h3, if_pos h3]; exact ⟨rfl, rfl⟩
  have V4 : ¬ s.length = 0 → ¬ spS bs (i, h) s = 0 → ¬ spS bs (i, h) s = 1 → ¬ spS bs (i, h) s = 2 → spoilV bs (i, h) s = (s.take (spK bs (i, h) s).toNat ++ [UInt8.ofNat (bxor .i64 ((s.getD (spK bs (i, h) s).toNat 0).toNat : Int) (1 + belowV bs (spD bs (i, h) s) 255)).toNat]) ++ s.drop (spK bs (i, h) s + 1).toNat ∧ spoilC bs (i, h) s = belowC bs (spD bs (i, h) s) 255 := fun h0 h1 h2 h3 => by
    unfold spoilV spoilC; rw [if_neg h0, if_neg h0, if_neg h1, if_neg h1, if_neg h2, if_neg h2, if_neg h3, if_neg h3]; exact ⟨rfl, rfl⟩
  have hx := @bxor_bd ((s.getD (spK bs (i, h) s).toNat 0).toNat : Int) (1 + belowV bs (spD bs (i, h) s) 255) (by have := (s.getD (spK bs (i, h) s).toNat 0).toNat_lt; omega) (by omega)
  have hu := (s.getD (spK bs (i, h) s).toNat 0).toNat_lt
  refine ⟨fun g0 => ⟨hp1, hp2, by omega, ?_⟩, fun g0 => ?_⟩
  · rw [(V0 (by omega)).1, (V0 (by omega)).2]
    exact afin_of [0] rfl rfl (by simp [St.conv, St.bf, getE, putE, getB, cv, cvL, cvB, idx, still, pack, lifts, liftOne, liftC, liftK, killB, cellsOfB, setB]) (by simp [St.conv, St.bf, getE, putE, getB, cv, cvL, cvB, idx, still, pack, lifts, liftOne, liftC, liftK, killB, cellsOfB, setB])
  have hk := hk0 (by omega)
  have V1 := V1 (by omega)
  have V2 := V2 (by omega)
  have V3 := V3 (by omega)
  have V4 := V4 (by omega)
  have l1 : (List.take (spK bs (i, h) s).toNat s).length ≤ 1000000 := by rw [List.length_take]; omega
  have l2 : (List.drop (spK bs (i, h) s).toNat s).length ≤ 1000000 := by rw [List.length_drop]; omega
  have l3 : (List.drop (spK bs (i, h) s + 1).toNat s).length ≤ 1000000 := by rw [List.length_drop]; omega
  refine ⟨hp1, hp2, hp1, c1, fun g1 => ⟨by omega, by omega, by omega, by omega, ?_⟩, fun g1 => ⟨fun g2 => ⟨by omega, hp1, c2, by omega, by omega, by omega, by rw [List.length_append]; simp only [List.length_cons, List.length_nil]; omega, (by (repeat' apply And.intro) <;> (show ordB _ _ _ = true; kernel_rfl)), ?_⟩, fun g2 => ⟨fun g3 => ⟨by omega, ?_⟩, fun g3 => ?_⟩⟩⟩
  · rw [(V1 g1).1, (V1 g1).2]
    exact afin_of [0] rfl rfl (by simp [St.conv, St.bf, getE, putE, getB, cv, cvL, cvB, idx, still, pack, lifts, liftOne, liftC, liftK, killB, cellsOfB, setB]) (by simp [St.conv, St.bf, getE, putE, getB, cv, cvL, cvB, idx, still, pack, lifts, liftOne, liftC, liftK, killB, cellsOfB, setB])
  · rw [(V2 g1 g2).1, (V2 g1 g2).2]
    exact afin_of [0] rfl rfl (by simp [St.conv, St.bf, getE, putE, getB, cv, cvL, cvB, idx, still, pack, lifts, liftOne, liftC, liftK, killB, cellsOfB, setB]) (by simp [St.conv, St.bf, getE, putE, getB, cv, cvL, cvB, idx, still, pack, lifts, liftOne, liftC, liftK, killB, cellsOfB, setB])
  · rw [(V3 g1 g2 g3).1, (V3 g1 g2 g3).2]
    exact afin_of [0] rfl rfl (by simp [St.conv, St.bf, getE, putE, getB, cv, cvL, cvB, idx, still, pack, lifts, liftOne, liftC, liftK, killB, cellsOfB, setB]) (by simp [St.conv, St.bf, getE, putE, getB, cv, cvL, cvB, idx, still, pack, lifts, liftOne, liftC, liftK, killB, cellsOfB, setB])
  · rw [(V4 g1 g2 g3).1, (V4 g1 g2 g3).2]
    refine ⟨by omega, by omega, by omega, hp1, c2, by omega, hx, by omega, by omega, by omega, by rw [List.length_append]; simp only [List.length_cons, List.length_nil]; omega, (by (repeat' apply And.intro) <;> (show ordB _ _ _ = true; kernel_rfl)), ?_⟩
    exact afin_of [0] rfl rfl (by simp [St.conv, St.bf, getE, putE, getB, cv, cvL, cvB, idx, still, pack, lifts, liftOne, liftC, liftK, killB, cellsOfB, setB]) (by simp [St.conv, St.bf, getE, putE, getB, cv, cvL, cvB, idx, still, pack, lifts, liftOne, liftC, liftK, killB, cellsOfB, setB])
def lend_spec_l1Spoil : List Nat := [0]
def sp_spec_l1Spoil : List AV → List Bx → (AV → List Bx → Prop) → Prop
  | [.ptr 0 0, .str ⟨⟨s⟩⟩], [.box [.sl none (.ints .u8 bs), .int .i64 i, .int .i64 h]], K => (OkBs bs) ∧ (0 ≤ i) ∧ (s.length ≤ 1000000) ∧ K (.str (bst (spoilV bs (i, h) s))) [.box [.prm 2 (.ints .u8 bs), .int .i64 (spoilC bs (i, h) s).1, .int .i64 (spoilC bs (i, h) s).2]]
  | _, _, _ => False
theorem at_spec_l1Spoil {bs : List Int} {i h : Int} {s : List UInt8} {K : AV → List Bx → Prop} : sp_spec_l1Spoil [.ptr 0 0, .str (bst s)] [.box [.sl none (.ints .u8 bs), .int .i64 i, .int .i64 h]] K = ((OkBs bs) ∧ (0 ≤ i) ∧ (s.length ≤ 1000000) ∧ K (.str (bst (spoilV bs (i, h) s))) [.box [.prm 2 (.ints .u8 bs), .int .i64 (spoilC bs (i, h) s).1, .int .i64 (spoilC bs (i, h) s).2]]) := id rfl
theorem ok_spec_l1Spoil : ∀ args giv K, sp_spec_l1Spoil args giv K → ∃ r outs, ARuns Tryz.prog 60 args giv r outs ∧ K r outs := by
  intro args giv K hk
  unfold sp_spec_l1Spoil at hk
  split at hk
  · obtain ⟨hp1, hp2, hp3, hk⟩ := hk; exact ⟨_, _, runs_spec_l1Spoil _ _ _ _ hp1 hp2 hp3, hk⟩
  · exact hk.elim
theorem is_spec_l1Pick : FnIs Tryz.prog 61 12 [.tmp 4] (Tryz.f61.body.getD .skip) := ⟨⟨Tryz.f61, by kernel_rfl, by kernel_rfl, by kernel_rfl, by kernel_rfl⟩, by kernel_rfl, by kernel_rfl⟩
def G_spec_l1Pick : Gm := (Gm.none.add 57 lend_spec_l1Below sp_spec_l1Below)
theorem G_spec_l1Pick_ok : G_spec_l1Pick.ok Tryz.prog := (Gm.add_ok Gm.none_ok ok_spec_l1Below)
theorem gm_spec_l1Pick {r : List Oper} {n : Nat} : splB G_spec_l1Pick r n = true := rfl
theorem gs_spec_l1Pick_57 : G_spec_l1Pick.sp 57 = sp_spec_l1Below ∧ G_spec_l1Pick.lend 57 = lend_spec_l1Below := ⟨rfl, rfl⟩
set_option maxHeartbeats 1000000 in
set_option maxRecDepth 100000 in
theorem runs_spec_l1Pick (bs : List Int) (i h : Int) (ss : List ByteArray) (hp1 : OkBs bs) (hp2 : 0 ≤ i) (hp3 : 0 < ss.length) : ARuns Tryz.prog 61 [.ptr 0 0, .sl none (.strs ss)] [.box [.sl none (.ints .u8 bs), .int .i64 i, .int .i64 h]] (.str (pickS bs (i, h) ss)) [.box [.prm 2 (.ints .u8 bs), .int .i64 (belowC bs (i, h) ss.length).1, .int .i64 (belowC bs (i, h) ss.length).2]] := by
  refine ARuns_bc G_spec_l1Pick_ok is_spec_l1Pick (by simp) fun hl hlB => ?_
  simp only [kcode_at, kreg_at, bc_seq, bc_ret, bc_region, entryE, inPrm, entryB, inPrms, bxCells, Option.getD_some, acall_clo, selOf, selA, inArgs, inA, inL, okA, okL, okBx, outA, outL, outU, outB, deep, deepL, boxIds, List.map_nil, List.map_cons, List.all_nil, List.all_cons, BEq.rfl, Bool.and_true, List.append_nil, aops_nil, aops_plain, kont_at, aop_move, aop_assign, aop_load, aop_indexAddr, aop_len, SC0, aop_call, evalE, getE, putE, getB, setB, St.put, setsB, AV.ofV, AV.blk, SC.len, SC.get, List.length_nil, List.length_cons, Nat.reduceEqDiff, Nat.reduceAdd, ↓reduceIte, true_and, and_true, Option.isSome, List.nil_append, List.cons_append, aIdx_prm, aLen_prm, aLoad_ep, mp_one0, kcall_one, liveB_box, idx, dies, lend, lendA, lendDies, List.getD_cons_zero, List.getD_cons_succ, Nat.le_refl, Nat.reduceLT, List.flatMap_nil, List.flatMap_cons, Nat.zero_add, BEq.rfl, bst_mk, sl3, ty9, sl53, un53, sl51, gs_spec_l1Pick_57, at_spec_l1Below, lend_spec_l1Below, Tryz.f61]
  have hb := @belowV_bd bs (i, h) ss.length (by omega)
  exact ⟨hp1, hp2, by omega, afin_of [0] rfl rfl (by simp [St.conv, St.bf, getE, putE, getB, cv, cvL, cvB, idx, still, pack, lifts, liftOne, liftC, liftK, killB, cellsOfB, setB]; rfl) (by simp [St.conv, St.bf, getE, putE, getB, cv, cvL, cvB, idx, still, pack, lifts, liftOne, liftC, liftK, killB, cellsOfB, setB])⟩
def lend_spec_l1Pick : List Nat := [0]
def sp_spec_l1Pick : List AV → List Bx → (AV → List Bx → Prop) → Prop
  | [.ptr 0 0, .sl none (.strs ss)], [.box [.sl none (.ints .u8 bs), .int .i64 i, .int .i64 h]], K => (OkBs bs) ∧ (0 ≤ i) ∧ (0 < ss.length) ∧ K (.str (pickS bs (i, h) ss)) [.box [.prm 2 (.ints .u8 bs), .int .i64 (belowC bs (i, h) ss.length).1, .int .i64 (belowC bs (i, h) ss.length).2]]
  | _, _, _ => False
theorem at_spec_l1Pick {bs : List Int} {i h : Int} {ss : List ByteArray} {K : AV → List Bx → Prop} : sp_spec_l1Pick [.ptr 0 0, .sl none (.strs ss)] [.box [.sl none (.ints .u8 bs), .int .i64 i, .int .i64 h]] K = ((OkBs bs) ∧ (0 ≤ i) ∧ (0 < ss.length) ∧ K (.str (pickS bs (i, h) ss)) [.box [.prm 2 (.ints .u8 bs), .int .i64 (belowC bs (i, h) ss.length).1, .int .i64 (belowC bs (i, h) ss.length).2]]) := id rfl
theorem ok_spec_l1Pick : ∀ args giv K, sp_spec_l1Pick args giv K → ∃ r outs, ARuns Tryz.prog 61 args giv r outs ∧ K r outs := by
  intro args giv K hk
  unfold sp_spec_l1Pick at hk
  split at hk
  · obtain ⟨hp1, hp2, hp3, hk⟩ := hk; exact ⟨_, _, runs_spec_l1Pick _ _ _ _ hp1 hp2 hp3, hk⟩
  · exact hk.elim
theorem is_spec_DrawParseFamily : FnIs Tryz.prog 24 34 [.tmp 2, .tmp 3] (Tryz.f24.body.getD .skip) := ⟨⟨Tryz.f24, by kernel_rfl, by kernel_rfl, by kernel_rfl, by kernel_rfl⟩, by kernel_rfl, by kernel_rfl⟩
def G_spec_DrawParseFamily : Gm := ((((((Gm.none.add 8 lend_spec_FormatFamily sp_spec_FormatFamily).add 36 lend_spec_l15Any sp_spec_l15Any).add 37 lend_spec_l1New sp_spec_l1New).add 57 lend_spec_l1Below sp_spec_l1Below).add 60 lend_spec_l1Spoil sp_spec_l1Spoil).add 61 lend_spec_l1Pick sp_spec_l1Pick)
theorem G_spec_DrawParseFamily_ok : G_spec_DrawParseFamily.ok Tryz.prog := (Gm.add_ok (Gm.add_ok (Gm.add_ok (Gm.add_ok (Gm.add_ok (Gm.add_ok Gm.none_ok ok_spec_FormatFamily) ok_spec_l15Any) ok_spec_l1New) ok_spec_l1Below) ok_spec_l1Spoil) ok_spec_l1Pick)
theorem gm_spec_DrawParseFamily {r : List Oper} {n : Nat} : splB G_spec_DrawParseFamily r n = true := rfl
theorem gs_spec_DrawParseFamily_8 : G_spec_DrawParseFamily.sp 8 = sp_spec_FormatFamily ∧ G_spec_DrawParseFamily.lend 8 = lend_spec_FormatFamily := ⟨rfl, rfl⟩
theorem gs_spec_DrawParseFamily_36 : G_spec_DrawParseFamily.sp 36 = sp_spec_l15Any ∧ G_spec_DrawParseFamily.lend 36 = lend_spec_l15Any := ⟨rfl, rfl⟩
theorem gs_spec_DrawParseFamily_37 : G_spec_DrawParseFamily.sp 37 = sp_spec_l1New ∧ G_spec_DrawParseFamily.lend 37 = lend_spec_l1New := ⟨rfl, rfl⟩
theorem gs_spec_DrawParseFamily_57 : G_spec_DrawParseFamily.sp 57 = sp_spec_l1Below ∧ G_spec_DrawParseFamily.lend 57 = lend_spec_l1Below := ⟨rfl, rfl⟩
theorem gs_spec_DrawParseFamily_60 : G_spec_DrawParseFamily.sp 60 = sp_spec_l1Spoil ∧ G_spec_DrawParseFamily.lend 60 = lend_spec_l1Spoil := ⟨rfl, rfl⟩
theorem gs_spec_DrawParseFamily_61 : G_spec_DrawParseFamily.sp 61 = sp_spec_l1Pick ∧ G_spec_DrawParseFamily.lend 61 = lend_spec_l1Pick := ⟨rfl, rfl⟩
set_option maxHeartbeats 1000000 in
set_option maxRecDepth 100000 in
theorem runs_spec_DrawParseFamily (bs : List Int) (hp1 : OkBs bs) : ARuns Tryz.prog 24 [.sl none (.ints .u8 bs)] [] (.tup [.int .i64 (dpN bs), .str (bst (dpS bs))]) [] := by
  refine ARuns_bc G_spec_DrawParseFamily_ok is_spec_DrawParseFamily (by simp) fun hl hlB => ?_
  simp only [kcode_at, kreg_at, bc_skip, bc_seq, bc_cond, bc_block, bc_ret, bc_region, acond_tmp, aCase_b, afin_nil, cvE_some, resL, resV, cv, cvL, pack, entryE, inPrm, entryB, bxCells, Option.getD_some, acall_clo, kcall_nil, selOf, selA, inArgs, inA, inL, okA, okL, okBx, okC, outA, outL, outU, outB, deep, deepL, boxIds, AV.bid, List.map_nil, List.map_cons, List.all_nil, List.all_cons, BEq.rfl, Bool.and_true, List.append_nil, aops_nil, aops_plain, kont_at, aop_move, aop_assign, aop_alloc, aop_buildSlice, aop_load, aop_store, aop_binOp, aop_fieldAddr, aop_max, aMax_int, aop_min, aMin_int, SC0, aop_call, evalE, getE, putE, getB, setB, St.put, setsB, AV.ofV, AV.blk, AV.bid, AV.one, SC.len, List.length_nil, List.length_cons, Nat.reduceEqDiff, Nat.reduceAdd, ↓reduceIte, true_and, and_true, decide_eq_true_eq, decide_eq_false_iff_not, List.nil_append, List.cons_append, aAlloc_flat, aInt_eql, aBin_eql, aField_ptr, aBuildL_some, aBuildS_some, aLoad_1b, aLoad_fb, aStore_f, aBinW_f, isW_eql, mp_nil, mp_one0, mp_one1, kcall_one, liveB_box, idx, cont, still, dies, lend, lendA, lendDies, snocs, SC.snoc, List.getD_cons_zero, List.getD_cons_succ, Nat.le_refl, Nat.reduceLT, Nat.reduceLeDiff, Option.map_none, List.flatMap_nil, List.flatMap_cons, Nat.zero_add, BEq.rfl, bst_mk, sl3, ty3, un3, sl9, sl22, sl53, sl51, ty26, sl26, gs_spec_DrawParseFamily_8, at_spec_FormatFamily, lend_spec_FormatFamily, gs_spec_DrawParseFamily_36, at_spec_l15Any, lend_spec_l15Any, gs_spec_DrawParseFamily_37, at_spec_l1New, lend_spec_l1New, gs_spec_DrawParseFamily_57, at_spec_l1Below, lend_spec_l1Below, gs_spec_DrawParseFamily_60, at_spec_l1Spoil, lend_spec_l1Spoil, gs_spec_DrawParseFamily_61, at_spec_l1Pick, lend_spec_l1Pick, cu_eta, Tryz.f24]
  have hl7 := @anyL_len bs (newC bs)
  have c1 := @anyC_nn bs (newC bs) newC_nn
  have c2 := @belowC_nn bs (anyC bs (newC bs)) 4 c1
  have hT : (fmtF (anyN bs (newC bs)) (anyL bs (newC bs))).length ≤ 10000 := dpT_len
  have eN : (if -1 < (if anyN bs (newC bs) < 7 then anyN bs (newC bs) else 7) then (if anyN bs (newC bs) < 7 then anyN bs (newC bs) else 7) else -1) = dpN bs := rfl
  rw [eN]
  refine ⟨hp1, hp1, newC_nn, by omega, hp1, c1, fun h0 => ⟨hp1, c2, by omega, ?_⟩, fun h0 => ⟨fun h1 => ⟨rfl, hp1, c2, ?_⟩, fun h1 => ?_⟩⟩
  · have : dpS bs = spoilV bs (dpC bs) (dpT bs) := by unfold dpS dpK; rw [if_pos h0]
    rw [this]; rfl
  · have : dpS bs = (pickS bs (dpC bs) dpW).data.toList := by unfold dpS dpK; rw [if_neg h0, if_pos h1]
    rw [this, bst_un]; rfl
  · have : dpS bs = dpT bs := by unfold dpS dpK; rw [if_neg h0, if_neg h1]
    rw [this]; rfl
def lend_spec_DrawParseFamily : List Nat := []
def sp_spec_DrawParseFamily : List AV → List Bx → (AV → List Bx → Prop) → Prop
  | [.sl none (.ints .u8 bs)], [], K => (OkBs bs) ∧ K (.tup [.int .i64 (dpN bs), .str (bst (dpS bs))]) []
  | _, _, _ => False
theorem at_spec_DrawParseFamily {bs : List Int} {K : AV → List Bx → Prop} : sp_spec_DrawParseFamily [.sl none (.ints .u8 bs)] [] K = ((OkBs bs) ∧ K (.tup [.int .i64 (dpN bs), .str (bst (dpS bs))]) []) := id rfl
theorem ok_spec_DrawParseFamily : ∀ args giv K, sp_spec_DrawParseFamily args giv K → ∃ r outs, ARuns Tryz.prog 24 args giv r outs ∧ K r outs := by
  intro args giv K hk
  unfold sp_spec_DrawParseFamily at hk
  split at hk
  · obtain ⟨hp1, hk⟩ := hk; exact ⟨_, _, runs_spec_DrawParseFamily _ hp1, hk⟩
  · exact hk.elim
theorem is_spec_ParseInt : FnIs Tryz.prog 65 61 [.tmp 2, .tmp 3] (Tryz.f65.body.getD .skip) := ⟨⟨Tryz.f65, by kernel_rfl, by kernel_rfl, by kernel_rfl, by kernel_rfl⟩, by kernel_rfl, by kernel_rfl⟩
def G_spec_ParseInt : Gm := (Gm.none.add 70 lend_spec_FormatInt sp_spec_FormatInt)
theorem G_spec_ParseInt_ok : G_spec_ParseInt.ok Tryz.prog := (Gm.add_ok Gm.none_ok ok_spec_FormatInt)
theorem gm_spec_ParseInt {r : List Oper} {n : Nat} : splB G_spec_ParseInt r n = true := rfl
theorem gs_spec_ParseInt_70 : G_spec_ParseInt.sp 70 = sp_spec_FormatInt ∧ G_spec_ParseInt.lend 70 = lend_spec_FormatInt := ⟨rfl, rfl⟩
set_option maxHeartbeats 1000000 in
set_option maxRecDepth 100000 in
theorem runs_spec_ParseInt (s : List UInt8) (hp1 : s.length < 4294967281) : ARuns Tryz.prog 65 [.str (bst s)] [] (.tup [.int .i64 (piV s), .bool (piB s)]) [] := by
  refine ARuns_bc G_spec_ParseInt_ok is_spec_ParseInt (by simp) fun hl hlB => ?_
  simp only [kcode_at, kreg_at, bc_seq, bc_block, bc_region, entryE, inPrm, entryB, Option.getD_some, aops_nil, aops_plain, kont_at, aop_assign, evalE, putE, getB, St.put, setsB, AV.ofV, List.length_nil, Nat.reduceEqDiff, ↓reduceIte, List.nil_append, List.cons_append, Tryz.f65]
  refine bc_loop (fun i : Nat => i ≤ s.length ∧ i ≤ 11)
    (fun i => ⟨[(0, .str (bst s)), (4, .int .i64 (dvL (s.take i) 0)), (5, .int .i64 (((s.take i).countP isD : Nat) : Int)), (6, .int .i64 i)], []⟩) (fun i => s.length - i)
    [0, 4, 5, 6] [] 0 rfl (by simp [St.conv, St.bf, getE, putE, getB, cv, cvL, cvB, idx, still, pack, lifts, liftOne, liftC, liftK, killB, cellsOfB, setB]; simp [dvL]) (by omega) fun i hi => ?_
  simp only [kcode_at, kreg_at, bc_skip, bc_seq, bc_cond, bc_block, bc_exit, bc_ret, bc_region, lkX_cons, acond_tmp, aCase_t, aCase_f, aCase_b, afin_nil, cvE_some, resL, resV, cv, cvL, pack, acall_clo, kcall_nil, selOf, inArgs, inA, inL, okA, outA, outU, deep, deepL, AV.bid, List.map_nil, List.map_cons, List.all_nil, List.all_cons, BEq.rfl, Bool.and_true, List.append_nil, aops_nil, aops_plain, aops_guard, kont_at, yes_at, no_at, aop_move, aop_assign, aop_pick, aop_binOp, aop_unOp, aop_convert, aop_len, SC0, aop_call, evalE, getE, putE, getB, St.put, setsB, nth, AV.ofV, AV.bid, SC.len, List.length_nil, Nat.reduceEqDiff, ↓reduceIte, true_and, and_true, decide_eq_true_eq, Bool.not_eq_true', Bool.not_eq_false', decide_eq_false_iff_not, List.nil_append, List.cons_append, aGuardO_some, aGuard_tt, aGuard_tf, aGuard_ft, aGuard_ff, aGuard_tb, aGuard_fb, aPick_t, aPick_f, aInt_add, aBin_add, aInt_sub, aBin_sub, aInt_mul, aBin_mul, aInt_eql, aBin_eql, aInt_lss, aBin_lss, aInt_leq, aBin_leq, aInt_gtr, aBin_gtr, aInt_geq, aBin_geq, aUn_i, aConv_int, aLen_str, aBinW_f, isW_tmp, isW_mulc, isW_addc, isW_sub, isW_eql, isW_lss, isW_leq, isW_gtr, isW_geq, Int.reduceLT, aBinW_dF, Int.toNat_zero, cont, lend, BEq.rfl, aBin_sneq, aop_index, aIndex_str, aConvS_int, bst_size, bst_get, sEq_bst, sl3, un3, sl5, un5, un9, inR64, gs_spec_ParseInt_70, at_spec_FormatInt, lend_spec_FormatInt, inRu8, Int.toNat_natCast]
  have hbd := dvL_le (l := s.take i) (k := 11) (by rw [List.length_take]; omega) (by omega)
  have hcp := List.countP_le_length (p := isD) (l := s.take i)
  have htl : (s.take i).length = i := by rw [List.length_take]; omega
  have hex : s.take i = s.take 11 → dvL (s.take i) 0 = piT s ∧ (s.take i).countP isD = piK s := fun h => by rw [h]; exact ⟨rfl, rfl⟩
  have hpt := @piT_bd s
  have hT := dvL_t (l := s) (i := i)
  have hF := dvL_f (l := s) (i := i)
  have hc : i < s.length → (s.take (i + 1)).countP isD = (s.take i).countP isD + if isD (s.getD i 0) = true then 1 else 0 := fun h => by
    rw [take_snoc h, List.countP_append, List.countP_cons, List.countP_nil]; simp
  have hu := (s.getD i 0).toNat_lt
  refine ⟨fun h1 => ⟨fun h2 => ⟨by omega, fun h3 => ⟨by omega, fun h4 => ?_, fun h4 => ?_⟩, fun h3 => ?_⟩, fun h2 => ?_⟩, fun h1 => ?_⟩
  · have hd : isD (s.getD i 0) = true := isD_iff.2 (by omega)
    refine ⟨by omega, by omega, by omega, by omega, by omega, by omega, by omega, klp_of (i + 1) ?_ (by omega) (by omega)⟩
    rw [hT (by omega) hd, hc (by omega), if_pos hd]
    simp [St.conv, St.bf, getE, putE, getB, cv, cvL, cvB, idx, still, pack, lifts, liftOne, liftC, liftK, killB, cellsOfB, setB]
  · have hd : ¬ isD (s.getD i 0) = true := fun h => by have := isD_iff.1 h; omega
    refine ⟨by omega, klp_of (i + 1) ?_ (by omega) (by omega)⟩
    rw [hF (by omega) hd, hc (by omega), if_neg hd]
    simp [St.conv, St.bf, getE, putE, getB, cv, cvL, cvB, idx, still, pack, lifts, liftOne, liftC, liftK, killB, cellsOfB, setB]
  · have hd : ¬ isD (s.getD i 0) = true := fun h => by have := isD_iff.1 h; omega
    refine ⟨by omega, klp_of (i + 1) ?_ (by omega) (by omega)⟩
    rw [hF (by omega) hd, hc (by omega), if_neg hd]
    simp [St.conv, St.bf, getE, putE, getB, cv, cvL, cvB, idx, still, pack, lifts, liftOne, liftC, liftK, killB, cellsOfB, setB]
  · obtain ⟨e1, e2⟩ := hex (by rw [show i = 11 by omega])
    rw [e1, e2]
    exact ⟨fun h0 => ⟨by omega, fun h => ⟨by omega, pi_leaf (piN_t h)⟩, fun h => pi_leaf (piN_f h)⟩, fun h0 => pi_leaf (piN_0 h0)⟩
  · obtain ⟨e1, e2⟩ := hex (by rw [List.take_of_length_le (by omega), List.take_of_length_le (by omega)])
    rw [e1, e2]
    exact ⟨fun h0 => ⟨by omega, fun h => ⟨by omega, pi_leaf (piN_t h)⟩, fun h => pi_leaf (piN_f h)⟩, fun h0 => pi_leaf (piN_0 h0)⟩
def lend_spec_ParseInt : List Nat := []
def sp_spec_ParseInt : List AV → List Bx → (AV → List Bx → Prop) → Prop
  | [.str ⟨⟨s⟩⟩], [], K => (s.length < 4294967281) ∧ K (.tup [.int .i64 (piV s), .bool (piB s)]) []
  | _, _, _ => False
theorem at_spec_ParseInt {s : List UInt8} {K : AV → List Bx → Prop} : sp_spec_ParseInt [.str (bst s)] [] K = ((s.length < 4294967281) ∧ K (.tup [.int .i64 (piV s), .bool (piB s)]) []) := id rfl
theorem ok_spec_ParseInt : ∀ args giv K, sp_spec_ParseInt args giv K → ∃ r outs, ARuns Tryz.prog 65 args giv r outs ∧ K r outs := by
  intro args giv K hk
  unfold sp_spec_ParseInt at hk
  split at hk
  · obtain ⟨hp1, hk⟩ := hk; exact ⟨_, _, runs_spec_ParseInt _ hp1, hk⟩
  · exact hk.elim
end Go.Proofs.YtbookhehpebcmaaGreatDoor
