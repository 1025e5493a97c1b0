import Derived.Test.YtbookhehpebcmaaGreatDoorM2
namespace Go.Proofs.YtbookhehpebcmaaGreatDoor
open AM
set_option linter.unusedSimpArgs false
set_option linter.unusedVariables false

theorem is_spec_ParseSet : FnIs Tryz.prog 29 65 [.tmp 4, .tmp 5] (Tryz.f29.body.getD .skip) := ⟨⟨Tryz.f29, by kernel_rfl, by kernel_rfl, by kernel_rfl, by kernel_rfl⟩, by kernel_rfl, by kernel_rfl⟩
def G_spec_ParseSet : Gm := (((Gm.none.add 33 lend_spec_FormatSet sp_spec_FormatSet).add 41 lend_spec_l1In sp_spec_l1In).add 65 lend_spec_ParseInt sp_spec_ParseInt)
theorem G_spec_ParseSet_ok : G_spec_ParseSet.ok Tryz.prog := (Gm.add_ok (Gm.add_ok (Gm.add_ok Gm.none_ok ok_spec_FormatSet) ok_spec_l1In) ok_spec_ParseInt)
theorem gm_spec_ParseSet {r : List Oper} {n : Nat} : splB G_spec_ParseSet r n = true := rfl
theorem gs_spec_ParseSet_33 : G_spec_ParseSet.sp 33 = sp_spec_FormatSet ∧ G_spec_ParseSet.lend 33 = lend_spec_FormatSet := ⟨rfl, rfl⟩
theorem gs_spec_ParseSet_41 : G_spec_ParseSet.sp 41 = sp_spec_l1In ∧ G_spec_ParseSet.lend 41 = lend_spec_l1In := ⟨rfl, rfl⟩
theorem gs_spec_ParseSet_65 : G_spec_ParseSet.sp 65 = sp_spec_ParseInt ∧ G_spec_ParseSet.lend 65 = lend_spec_ParseInt := ⟨rfl, rfl⟩
set_option maxHeartbeats 1000000 in
set_option maxRecDepth 100000 in
theorem runs_spec_ParseSet (n : Int) (s : List UInt8) (hp1 : s.length < 4294967281) : ARuns Tryz.prog 29 [.int .i64 n, .str (bst s)] [] (.tup [.int .i64 (psV n s), .bool (psB n s)]) [] := by
  refine ARuns_bc G_spec_ParseSet_ok is_spec_ParseSet (by simp) fun hl hlB => ?_
  simp only [kcode_at, kreg_at, bc_skip, bc_seq, bc_cond, bc_block, bc_ret, bc_region, acond_tmp, aCase_b, afin_nil, cvE_some, resL, resV, cv, cvL, pack, entryE, inPrm, entryB, Option.getD_some, acall_clo, kcall_nil, selOf, inArgs, inA, inL, okA, outA, outU, deep, deepL, List.map_nil, List.map_cons, List.all_nil, List.all_cons, BEq.rfl, Bool.and_true, List.append_nil, aops_nil, aops_plain, kont_at, aop_move, aop_assign, aop_unOp, SC0, aop_call, evalE, getE, putE, getB, St.put, setsB, AV.ofV, SC.len, List.length_nil, Nat.reduceEqDiff, ↓reduceIte, true_and, and_true, Bool.not_eq_true', Bool.not_eq_false', List.nil_append, List.cons_append, aUn_b, lend, Nat.zero_add, BEq.rfl, bst_mk, sl3, gs_spec_ParseSet_41, at_spec_l1In, lend_spec_l1In, Tryz.f29]
  refine ⟨fun h => ps_out h, fun hn => ?_⟩
  have hn6 := hn
  rw [inB_t] at hn6
  refine bc_loop (fun y : Nat × Int × List UInt8 => y.2.2.length ≤ y.1 ∧ ((s = [45] ∧ y.2.1 = 0) ∨ (¬ s = [45] ∧ ((y.1 ≤ s.length ∧ scanO 44 (psO n) y.2.1 y.2.2 (s.drop y.1) = psQ n s) ∨ (y.1 = s.length + 1 ∧ psQ n s = some y.2.1)))))
    (fun y => ⟨[(0, .int .i64 n), (1, .str (bst s)), (6, .int .i64 y.2.1), (7, .str (bst y.2.2)), (8, .int .i64 y.1)], []⟩) (fun y => s.length + 1 - y.1)
    [0, 1, 6, 7, 8] [] (0, 0, []) rfl (by simp [St.conv, St.bf, getE, putE, getB, cv, cvL, cvB, idx, still, pack, lifts, liftOne, liftC, liftK, killB, cellsOfB, setB]) ⟨by simp, ?_⟩ fun y hy => ?_
  · by_cases h : s = [45]
    · exact .inl ⟨h, rfl⟩
    · exact .inr ⟨h, .inl ⟨by omega, by rw [psQ_n h]; exact scan_split⟩⟩
  obtain ⟨i, x, part⟩ := y
  obtain ⟨hy0, hy⟩ := hy
  simp only at hy0 hy
  simp only [kcode_at, kreg_at, bc_skip, bc_seq, bc_cond, bc_block, bc_exit, bc_ret, bc_region, lkX_cons, acond_tmp, aCase_t, aCase_f, aCase_b, afin_nil, cvE_some, resL, resV, cv, cvL, pack, acall_clo, kcall_nil, selOf, inArgs, inA, inL, okA, okL, outA, outL, outU, deep, deepL, AV.bid, List.map_nil, List.map_cons, List.all_nil, List.all_cons, BEq.rfl, Bool.and_true, List.append_nil, aops_nil, aops_plain, aops_guard, kont_at, yes_at, no_at, aop_move, aop_assign, aop_pick, aop_binOp, aop_unOp, aop_slice, aop_extract, aop_len, SC0, aop_call, evalE, getE, putE, getB, St.put, setsB, nth, AV.ofV, AV.bid, SC.len, List.length_nil, List.length_cons, Nat.reduceEqDiff, Nat.reduceAdd, ↓reduceIte, true_and, and_true, decide_eq_true_eq, Bool.not_eq_true', Bool.not_eq_false', decide_eq_false_iff_not, Option.isSome, List.nil_append, List.cons_append, aGuardO_some, aGuard_tt, aGuard_tf, aGuard_ft, aGuard_ff, aGuard_tb, aGuard_fb, aPick_t, aPick_f, aInt_add, aBin_add, aInt_sub, aBin_sub, aInt_or, aBin_or, aInt_neq, aBin_neq, aInt_lss, aBin_lss, aInt_leq, aBin_leq, aBin_shl, aShift_shl, aUn_b, aExtr_tup, aLen_str, aBinW_f, isW_tmp, isW_addc, isW_sub, isW_neq, Int.reduceLT, aBinW_dF, cont, dies, lend, List.getD_cons_zero, List.getD_cons_succ, Nat.reduceLT, Option.map_some, Nat.zero_add, BEq.rfl, aBin_sadd, aBin_sneq, aop_index, aIndex_str, aCut_lh, bst_size, bst_add, bst_cut, bst_get, sEq_bst, sl3, un3, un5, sl9, un9, inR64, gs_spec_ParseSet_33, at_spec_FormatSet, lend_spec_FormatSet, gs_spec_ParseSet_41, at_spec_l1In, lend_spec_l1In, gs_spec_ParseSet_65, at_spec_ParseInt, lend_spec_ParseInt, Int.toNat_natCast]
  have ein : (↑i + 1 : Int).toNat = i + 1 := by omega
  simp only [ein]
  have hb := byte_eq (b := s.getD i 0) (c := 44) (n := 44) rfl
  have proc : (¬ s = [45]) → (match psO n x part with
      | some y => (i + 1 ≤ s.length ∧ scanO 44 (psO n) y [] (s.drop (i + 1)) = psQ n s) ∨ (i + 1 = s.length + 1 ∧ psQ n s = some y)
      | none => psQ n s = none) → part.length ≤ s.length → i ≤ s.length →
      part.length < 4294967281 ∧ (piB part = false → AV.tup [AV.int IntKind.i64 0, AV.bool false] = AV.tup [AV.int IntKind.i64 (psV n s), AV.bool (psB n s)]) ∧
      (piB part = true → (-9223372036854775808 ≤ n - 1 ∧ n - 1 ≤ 9223372036854775807) ∧
        (inB (piV part) 0 (n - 1) = false → AV.tup [AV.int IntKind.i64 0, AV.bool false] = AV.tup [AV.int IntKind.i64 (psV n s), AV.bool (psB n s)]) ∧
        (inB (piV part) 0 (n - 1) = true → (0 ≤ piV part ∧ piV part ≤ ↑IntKind.i64.bits ∧ -9223372036854775808 ≤ (1 : Int) * 2 ^ (piV part).toNat ∧ (1 : Int) * 2 ^ (piV part).toNat ≤ 9223372036854775807) ∧
          (-9223372036854775808 ≤ (i : Int) + 1 ∧ (i : Int) + 1 ≤ 9223372036854775807) ∧
          ((i + 1 ≤ s.length ∧ scanO 44 (psO n) (bor .i64 x (1 * 2 ^ (piV part).toNat)) [] (s.drop (i + 1)) = psQ n s) ∨ (i + 1 = s.length + 1 ∧ psQ n s = some (bor .i64 x (1 * 2 ^ (piV part).toNat)))))) := fun h0 hm hpl hil => by
    refine ⟨by omega, fun h2 => ps_none (by rw [psO_f1 h2] at hm; exact hm), fun h2 => ⟨by omega, fun h3 => ps_none (by rw [psO_f2 h3] at hm; exact hm), fun h3 => ?_⟩⟩
    rw [psO_t h2 h3] at hm
    rw [inB_t] at h3
    have hpw := pw6 (e := piV part) (by omega) (by omega)
    simp only [IntKind.bits]
    exact ⟨by omega, by omega, hm⟩
  refine ⟨fun h1 => ⟨fun h2 => ?_, fun h2 => ?_⟩, fun h1 => ?_⟩
  · have hy' : scanO 44 (psO n) x part (s.drop i) = psQ n s := by
      rcases hy with ⟨h, _⟩ | ⟨_, ⟨_, h⟩ | ⟨h, _⟩⟩
      · exact absurd h h2
      · exact h
      · omega
    refine ⟨fun h3 => ⟨by omega, fun h4 => ?_, fun h4 => ?_⟩, fun h3 => ?_⟩
    · have hne : ¬ s.getD i 0 = 44 := fun e => h4 (hb.2 e)
      rw [one_at (by omega)]
      rw [scan_ne (by omega) hne] at hy'
      refine ⟨by omega, by omega, by simp only [List.length_cons, List.length_nil]; omega, by omega, klp_of (i + 1, x, part ++ [s.getD i 0]) (by simp [St.conv, St.bf, getE, putE, getB, cv, cvL, cvB, idx, still, pack, lifts, liftOne, liftC, liftK, killB, cellsOfB, setB]) ⟨by simp; omega, .inr ⟨h2, .inl ⟨by simp only; omega, hy'⟩⟩⟩ (by simp only; omega)⟩
    · have heq : s.getD i 0 = 44 := hb.1 h4
      rw [scan_eq (by omega) heq] at hy'
      obtain ⟨p1, p2, p3⟩ := proc h2 (by
        revert hy'
        cases psO n x part with
        | none => intro h; exact h.symm
        | some y => intro h; exact .inl ⟨by omega, h⟩) (by omega) (by omega)
      refine ⟨p1, p2, fun h5 => ⟨(p3 h5).1, (p3 h5).2.1, fun h6 => ?_⟩⟩
      obtain ⟨q1, q2, q3⟩ := (p3 h5).2.2 h6
      exact ⟨q1, q2, klp_of (i + 1, bor .i64 x (1 * 2 ^ (piV part).toNat), []) (by simp [St.conv, St.bf, getE, putE, getB, cv, cvL, cvB, idx, still, pack, lifts, liftOne, liftC, liftK, killB, cellsOfB, setB]) ⟨by simp, .inr ⟨h2, q3⟩⟩ (by simp only; omega)⟩
    · rw [scan_end (by omega)] at hy'
      obtain ⟨p1, p2, p3⟩ := proc h2 (by
        revert hy'
        cases psO n x part with
        | none => intro h; exact h.symm
        | some y => intro h; exact .inr ⟨by omega, h.symm⟩) (by omega) (by omega)
      refine ⟨p1, p2, fun h5 => ⟨(p3 h5).1, (p3 h5).2.1, fun h6 => ?_⟩⟩
      obtain ⟨q1, q2, q3⟩ := (p3 h5).2.2 h6
      exact ⟨q1, q2, klp_of (i + 1, bor .i64 x (1 * 2 ^ (piV part).toNat), []) (by simp [St.conv, St.bf, getE, putE, getB, cv, cvL, cvB, idx, still, pack, lifts, liftOne, liftC, liftK, killB, cellsOfB, setB]) ⟨by simp, .inr ⟨h2, q3⟩⟩ (by simp only; omega)⟩
  · have hx : x = 0 := by
      rcases hy with ⟨_, h⟩ | ⟨h, _⟩
      · exact h
      · exact absurd h2 h
    exact ps_leaf hn (by rw [hx]; exact psQ_d h2)
  · rcases hy with ⟨h, hx⟩ | ⟨_, ⟨h, _⟩ | ⟨_, h⟩⟩
    · exact ps_leaf hn (by rw [hx]; exact psQ_d h)
    · omega
    · exact ps_leaf hn h
def lend_spec_ParseSet : List Nat := []
def sp_spec_ParseSet : List AV → List Bx → (AV → List Bx → Prop) → Prop
  | [.int .i64 n, .str ⟨⟨s⟩⟩], [], K => (s.length < 4294967281) ∧ K (.tup [.int .i64 (psV n s), .bool (psB n s)]) []
  | _, _, _ => False
theorem at_spec_ParseSet {n : Int} {s : List UInt8} {K : AV → List Bx → Prop} : sp_spec_ParseSet [.int .i64 n, .str (bst s)] [] K = ((s.length < 4294967281) ∧ K (.tup [.int .i64 (psV n s), .bool (psB n s)]) []) := id rfl
theorem ok_spec_ParseSet : ∀ args giv K, sp_spec_ParseSet args giv K → ∃ r outs, ARuns Tryz.prog 29 args giv r outs ∧ K r outs := by
  intro args giv K hk
  unfold sp_spec_ParseSet at hk
  split at hk
  · obtain ⟨hp1, hk⟩ := hk; exact ⟨_, _, runs_spec_ParseSet _ _ hp1, hk⟩
  · exact hk.elim
theorem is_spec_ParseFamily : FnIs Tryz.prog 25 60 [ResultVar.cell 4 26, .tmp 5] (Tryz.f25.body.getD .skip) := ⟨⟨Tryz.f25, by kernel_rfl, by kernel_rfl, by kernel_rfl, by kernel_rfl⟩, by kernel_rfl, by kernel_rfl⟩
def G_spec_ParseFamily : Gm := ((Gm.none.add 9 lend_spec_IsFamily sp_spec_IsFamily).add 29 lend_spec_ParseSet sp_spec_ParseSet)
theorem G_spec_ParseFamily_ok : G_spec_ParseFamily.ok Tryz.prog := (Gm.add_ok (Gm.add_ok Gm.none_ok ok_spec_IsFamily) ok_spec_ParseSet)
theorem gm_spec_ParseFamily {r : List Oper} {n : Nat} : splB G_spec_ParseFamily r n = true := rfl
theorem gs_spec_ParseFamily_9 : G_spec_ParseFamily.sp 9 = sp_spec_IsFamily ∧ G_spec_ParseFamily.lend 9 = lend_spec_IsFamily := ⟨rfl, rfl⟩
theorem gs_spec_ParseFamily_29 : G_spec_ParseFamily.sp 29 = sp_spec_ParseSet ∧ G_spec_ParseFamily.lend 29 = lend_spec_ParseSet := ⟨rfl, rfl⟩
set_option maxHeartbeats 1000000 in
set_option maxRecDepth 100000 in
theorem runs_spec_ParseFamily (n : Int) (s : List UInt8) (hp1 : s.length < 1048576) : ARuns Tryz.prog 25 [.int .i64 n, .str (bst s)] [] (.tup [.agg [.int .i64 (pfN n s), .ref 0 (pfL n s).length], .bool (pfB n s)]) [.row 3 (.ints .i64 (pfL n s))] := by
  refine ARuns_bc G_spec_ParseFamily_ok is_spec_ParseFamily (by simp) fun hl hlB => ?_
  simp only [kcode_at, kreg_at, bc_seq, bc_block, bc_region, entryE, inPrm, entryB, Option.getD_some, List.map_nil, List.map_cons, List.all_nil, List.all_cons, Bool.and_true, aops_nil, aops_plain, kont_at, aop_move, aop_assign, aop_alloc, aop_build, aop_store, evalE, getE, putE, getB, setB, St.put, setsB, AV.ofV, AV.blk, AV.one, List.length_nil, List.length_cons, Nat.reduceEqDiff, Nat.reduceAdd, ↓reduceIte, true_and, and_true, decide_eq_true_eq, List.nil_append, List.cons_append, aAlloc_flat, aBuild_flat, aStore_f, fillA, List.set_cons_zero, Nat.reduceLT, Nat.zero_add, bst_mk, ty26, Tryz.f25]
  refine bc_loopN [(1001001, 3, .ints .i64 [])] (fun y : Nat × List Int × List UInt8 => y.2.2.length ≤ y.1 ∧ y.2.1.length ≤ y.1 ∧ ((s = [110, 111, 110, 101] ∧ y.2.1 = []) ∨ (¬ s = [110, 111, 110, 101] ∧ ((y.1 ≤ s.length ∧ scanO 124 (pfO n) y.2.1 y.2.2 (s.drop y.1) = pfQ n s) ∨ (y.1 = s.length + 1 ∧ pfQ n s = some y.2.1)))))
    (fun y => ⟨[(0, .int .i64 n), (1, .str (bst s)), (4, .ptr 0 0), (6, .ptr 1 0), (7, .str (bst y.2.2)), (8, .int .i64 y.1)],
      [.box [.int .i64 0, .nil], .box [.int .i64 n, .ref 2 y.2.1.length], .row 3 (.ints .i64 y.2.1)]⟩) (fun y => s.length + 1 - y.1)
    [0, 1, 4, 6, 7, 8] [0, 1, 2] (0, [], []) rfl rfl (by simp [St.conv, St.bf, getE, putE, getB, cv, cvL, cvB, idx, still, pack, lifts, liftOne, liftC, liftK, killB, cellsOfB, setB]) ⟨by simp, by simp, ?_⟩ fun y hy => ?_
  · by_cases h : s = [110, 111, 110, 101]
    · exact .inl ⟨h, rfl⟩
    · exact .inr ⟨h, .inl ⟨by omega, by rw [pfQ_n h]; exact scan_split⟩⟩
  obtain ⟨i, xs, part⟩ := y
  obtain ⟨hy0, hyx, hy⟩ := hy
  simp only at hy0 hyx hy
  simp only [kcode_at, kreg_at, bc_skip, bc_seq, bc_cond, bc_block, bc_exit, bc_ret, bc_region, lkX_cons, acond_tmp, aCase_f, aCase_b, acall_clo, kcall_nil, selOf, inArgs, inA, inL, okA, okL, outA, outL, outU, deep, deepL, AV.bid, List.map_nil, List.map_cons, List.all_nil, List.all_cons, BEq.rfl, Bool.and_true, List.append_nil, aops_nil, aops_plain, aops_guard, kont_at, yes_at, no_at, aop_move, aop_assign, aop_pick, aop_build, aop_buildSlice, aop_load, aop_store, aop_binOp, aop_unOp, aop_fieldAddr, aop_slice, aop_extract, aop_len, slTy2, SC0, aop_append, aop_call, evalE, getE, putE, getB, setB, St.put, setsB, nth, AV.ofV, AV.blk, AV.bid, AV.one, SC.len, List.length_nil, List.length_cons, Nat.reduceEqDiff, Nat.reduceAdd, ↓reduceIte, true_and, and_true, decide_eq_true_eq, Bool.not_eq_true', Bool.not_eq_false', decide_eq_false_iff_not, Option.isSome, List.nil_append, List.cons_append, aGuardO_some, aGuard_tt, aGuard_tf, aGuard_tb, aPick_t, aPick_f, aBuild_flat, aInt_add, aBin_add, aInt_neq, aBin_neq, aInt_lss, aBin_lss, aInt_leq, aBin_leq, aUn_b, aField_ptr, aExtr_tup, aLen_str, aBuildL_some, aBuildS_some, aLoad_1b, aLoad_fb, aStore_1, aStore_f, aApp_some, aAppend_ref, aBinW_f, isW_tmp, isW_addc, isW_neq, Int.reduceLT, aBinW_dF, rng1, idx, cont, still, dies, lend, snocs, SC.snoc, SC.app, fillA, List.getD_cons_zero, List.getD_cons_succ, List.set_cons_zero, List.set_cons_succ, Nat.reduceLT, Nat.reduceLeDiff, Option.map_some, List.flatMap_nil, List.flatMap_cons, Nat.zero_add, BEq.rfl, aBin_sadd, aBin_sneq, aop_index, aIndex_str, aCut_lh, bst_size, bst_add, bst_cut, bst_get, sEq_bst, sl3, un3, un5, sl9, un9, sl24, ty24, ty26, sl26, inR64, gs_spec_ParseFamily_9, at_spec_IsFamily, lend_spec_IsFamily, gs_spec_ParseFamily_29, at_spec_ParseSet, lend_spec_ParseSet, Int.toNat_natCast]
  have ein : (↑i + 1 : Int).toNat = i + 1 := by omega
  simp only [ein]
  have hb := byte_eq (b := s.getD i 0) (c := 124) (n := 124) rfl
  refine ⟨fun h1 => ⟨fun h2 => ?_, fun h2 => ?_⟩, fun h1 => ?_⟩
  · have hy' : scanO 124 (pfO n) xs part (s.drop i) = pfQ n s := by
      rcases hy with ⟨h, _⟩ | ⟨_, ⟨_, h⟩ | ⟨h, _⟩⟩
      · exact absurd h h2
      · exact h
      · omega
    refine ⟨fun h3 => ⟨by omega, fun h4 => ?_, fun h4 => ?_⟩, fun h3 => ?_⟩
    · have hne : ¬ s.getD i 0 = 124 := fun e => h4 (hb.2 e)
      rw [one_at (by omega)]
      rw [scan_ne (by omega) hne] at hy'
      refine ⟨by omega, by omega, by simp only [List.length_cons, List.length_nil]; omega, by omega, klp_of (i + 1, xs, part ++ [s.getD i 0]) (by simp [St.conv, St.bf, getE, putE, getB, cv, cvL, cvB, idx, still, pack, lifts, liftOne, liftC, liftK, killB, cellsOfB, setB]) ⟨by simp; omega, by simp only; omega, .inr ⟨h2, .inl ⟨by simp only; omega, hy'⟩⟩⟩ (by simp only; omega)⟩
    · have heq : s.getD i 0 = 124 := hb.1 h4
      rw [scan_eq (by omega) heq] at hy'
      refine ⟨by omega, fun h5 => ?_, fun h5 => ?_⟩
      · rw [pfO_f h5] at hy'
        have hB := pf_none hy'.symm
        rw [(pf_f hB).1, (pf_f hB).2, hB]
        exact afin_ofN [(1000001, 3, .ints .i64 [])] [3] rfl rfl (by simp only [resL, resV, resC, getE, putE, getB, setB, lifts, liftOne, liftC, liftK, killB, cellsOfB, List.length_cons, List.length_nil, List.nil_append, List.cons_append, Nat.reduceAdd, Nat.reduceEqDiff, ↓reduceIte, ty3, ty67, ty120, ty118, ty5, ty2, ty21, ty4, ty9, ty24, ty22, ty53, ty26, ty81]; rfl) (by simp [St.conv, St.bf, getE, putE, getB, cv, cvL, cvB, idx, still, pack, lifts, liftOne, liftC, liftK, killB, cellsOfB, setB]) (by simp [St.conv, St.bf, getE, putE, getB, cv, cvL, cvB, idx, still, pack, lifts, liftOne, liftC, liftK, killB, cellsOfB, setB])
      · rw [pfO_t h5] at hy'
        refine ⟨by omega, by omega, klp_of (i + 1, xs ++ [psV n part], []) (by simp only [List.length_append, List.length_singleton]; simp [St.conv, St.bf, getE, putE, getB, cv, cvL, cvB, idx, still, pack, lifts, liftOne, liftC, liftK, killB, cellsOfB, setB]) ⟨by simp, by simp only [List.length_append, List.length_singleton]; omega, .inr ⟨h2, .inl ⟨by simp only; omega, hy'⟩⟩⟩ (by simp only; omega)⟩
    · rw [scan_end (by omega)] at hy'
      refine ⟨by omega, fun h5 => ?_, fun h5 => ?_⟩
      · rw [pfO_f h5] at hy'
        have hB := pf_none hy'.symm
        rw [(pf_f hB).1, (pf_f hB).2, hB]
        exact afin_ofN [(1000001, 3, .ints .i64 [])] [3] rfl rfl (by simp only [resL, resV, resC, getE, putE, getB, setB, lifts, liftOne, liftC, liftK, killB, cellsOfB, List.length_cons, List.length_nil, List.nil_append, List.cons_append, Nat.reduceAdd, Nat.reduceEqDiff, ↓reduceIte, ty3, ty67, ty120, ty118, ty5, ty2, ty21, ty4, ty9, ty24, ty22, ty53, ty26, ty81]; rfl) (by simp [St.conv, St.bf, getE, putE, getB, cv, cvL, cvB, idx, still, pack, lifts, liftOne, liftC, liftK, killB, cellsOfB, setB]) (by simp [St.conv, St.bf, getE, putE, getB, cv, cvL, cvB, idx, still, pack, lifts, liftOne, liftC, liftK, killB, cellsOfB, setB])
      · rw [pfO_t h5] at hy'
        refine ⟨by omega, by omega, klp_of (i + 1, xs ++ [psV n part], []) (by simp only [List.length_append, List.length_singleton]; simp [St.conv, St.bf, getE, putE, getB, cv, cvL, cvB, idx, still, pack, lifts, liftOne, liftC, liftK, killB, cellsOfB, setB]) ⟨by simp, by simp only [List.length_append, List.length_singleton]; omega, .inr ⟨h2, .inr ⟨by simp only; omega, hy'.symm⟩⟩⟩ (by simp only; omega)⟩
  · have hx : xs = [] := by
      rcases hy with ⟨_, h⟩ | ⟨h, _⟩
      · exact h
      · exact absurd h2 h
    obtain ⟨e1, e2⟩ := pf_some (n := n) (s := s) (xs := xs) (by rw [hx]; exact pfQ_d h2)
    refine ⟨fun h5 => ?_, fun h5 => ?_⟩
    · have hB : pfB n s = false := by rw [e1, h5]
      rw [(pf_f hB).1, (pf_f hB).2, hB]
      exact afin_ofN [(1000001, 3, .ints .i64 [])] [3] rfl rfl (by simp only [resL, resV, resC, getE, putE, getB, setB, lifts, liftOne, liftC, liftK, killB, cellsOfB, List.length_cons, List.length_nil, List.nil_append, List.cons_append, Nat.reduceAdd, Nat.reduceEqDiff, ↓reduceIte, ty3, ty67, ty120, ty118, ty5, ty2, ty21, ty4, ty9, ty24, ty22, ty53, ty26, ty81]; rfl) (by simp [St.conv, St.bf, getE, putE, getB, cv, cvL, cvB, idx, still, pack, lifts, liftOne, liftC, liftK, killB, cellsOfB, setB]) (by simp [St.conv, St.bf, getE, putE, getB, cv, cvL, cvB, idx, still, pack, lifts, liftOne, liftC, liftK, killB, cellsOfB, setB])
    · obtain ⟨e3, e4⟩ := e2 h5
      rw [e1, e3, e4, h5]
      exact afin_of [2] rfl (by simp only [resL, resV, resC, getE, putE, getB, setB, lifts, liftOne, liftC, liftK, killB, cellsOfB, List.length_cons, List.length_nil, List.nil_append, List.cons_append, Nat.reduceAdd, Nat.reduceEqDiff, ↓reduceIte, ty3, ty67, ty120, ty118, ty5, ty2, ty21, ty4, ty9, ty24, ty22, ty53, ty26, ty81]; rfl) (by simp [St.conv, St.bf, getE, putE, getB, cv, cvL, cvB, idx, still, pack, lifts, liftOne, liftC, liftK, killB, cellsOfB, setB]) (by simp [St.conv, St.bf, getE, putE, getB, cv, cvL, cvB, idx, still, pack, lifts, liftOne, liftC, liftK, killB, cellsOfB, setB])
  · obtain ⟨e1, e2⟩ := pf_some (n := n) (s := s) (xs := xs) (by
      rcases hy with ⟨h, hx⟩ | ⟨_, ⟨h, _⟩ | ⟨_, h⟩⟩
      · rw [hx]; exact pfQ_d h
      · omega
      · exact h)
    refine ⟨fun h5 => ?_, fun h5 => ?_⟩
    · have hB : pfB n s = false := by rw [e1, h5]
      rw [(pf_f hB).1, (pf_f hB).2, hB]
      exact afin_ofN [(1000001, 3, .ints .i64 [])] [3] rfl rfl (by simp only [resL, resV, resC, getE, putE, getB, setB, lifts, liftOne, liftC, liftK, killB, cellsOfB, List.length_cons, List.length_nil, List.nil_append, List.cons_append, Nat.reduceAdd, Nat.reduceEqDiff, ↓reduceIte, ty3, ty67, ty120, ty118, ty5, ty2, ty21, ty4, ty9, ty24, ty22, ty53, ty26, ty81]; rfl) (by simp [St.conv, St.bf, getE, putE, getB, cv, cvL, cvB, idx, still, pack, lifts, liftOne, liftC, liftK, killB, cellsOfB, setB]) (by simp [St.conv, St.bf, getE, putE, getB, cv, cvL, cvB, idx, still, pack, lifts, liftOne, liftC, liftK, killB, cellsOfB, setB])
    · obtain ⟨e3, e4⟩ := e2 h5
      rw [e1, e3, e4, h5]
      exact afin_of [2] rfl (by simp only [resL, resV, resC, getE, putE, getB, setB, lifts, liftOne, liftC, liftK, killB, cellsOfB, List.length_cons, List.length_nil, List.nil_append, List.cons_append, Nat.reduceAdd, Nat.reduceEqDiff, ↓reduceIte, ty3, ty67, ty120, ty118, ty5, ty2, ty21, ty4, ty9, ty24, ty22, ty53, ty26, ty81]; rfl) (by simp [St.conv, St.bf, getE, putE, getB, cv, cvL, cvB, idx, still, pack, lifts, liftOne, liftC, liftK, killB, cellsOfB, setB]) (by simp [St.conv, St.bf, getE, putE, getB, cv, cvL, cvB, idx, still, pack, lifts, liftOne, liftC, liftK, killB, cellsOfB, setB])
def lend_spec_ParseFamily : List Nat := []
def sp_spec_ParseFamily : List AV → List Bx → (AV → List Bx → Prop) → Prop
  | [.int .i64 n, .str ⟨⟨s⟩⟩], [], K => (s.length < 1048576) ∧ K (.tup [.agg [.int .i64 (pfN n s), .ref 0 (pfL n s).length], .bool (pfB n s)]) [.row 3 (.ints .i64 (pfL n s))]
  | _, _, _ => False
theorem at_spec_ParseFamily {n : Int} {s : List UInt8} {K : AV → List Bx → Prop} : sp_spec_ParseFamily [.int .i64 n, .str (bst s)] [] K = ((s.length < 1048576) ∧ K (.tup [.agg [.int .i64 (pfN n s), .ref 0 (pfL n s).length], .bool (pfB n s)]) [.row 3 (.ints .i64 (pfL n s))]) := id rfl
theorem ok_spec_ParseFamily : ∀ args giv K, sp_spec_ParseFamily args giv K → ∃ r outs, ARuns Tryz.prog 25 args giv r outs ∧ K r outs := by
  intro args giv K hk
  unfold sp_spec_ParseFamily at hk
  split at hk
  · obtain ⟨hp1, hk⟩ := hk; exact ⟨_, _, runs_spec_ParseFamily _ _ hp1, hk⟩
  · exact hk.elim
theorem is_spec_DrawElementsOf : FnIs Tryz.prog 62 15 [.tmp 2, .tmp 3] (Tryz.f62.body.getD .skip) := ⟨⟨Tryz.f62, by kernel_rfl, by kernel_rfl, by kernel_rfl, by kernel_rfl⟩, by kernel_rfl, by kernel_rfl⟩
def G_spec_DrawElementsOf : Gm := ((Gm.none.add 37 lend_spec_l1New sp_spec_l1New).add 57 lend_spec_l1Below sp_spec_l1Below)
theorem G_spec_DrawElementsOf_ok : G_spec_DrawElementsOf.ok Tryz.prog := (Gm.add_ok (Gm.add_ok Gm.none_ok ok_spec_l1New) ok_spec_l1Below)
theorem gm_spec_DrawElementsOf {r : List Oper} {n : Nat} : splB G_spec_DrawElementsOf r n = true := rfl
theorem gs_spec_DrawElementsOf_37 : G_spec_DrawElementsOf.sp 37 = sp_spec_l1New ∧ G_spec_DrawElementsOf.lend 37 = lend_spec_l1New := ⟨rfl, rfl⟩
theorem gs_spec_DrawElementsOf_57 : G_spec_DrawElementsOf.sp 57 = sp_spec_l1Below ∧ G_spec_DrawElementsOf.lend 57 = lend_spec_l1Below := ⟨rfl, rfl⟩
set_option maxHeartbeats 1000000 in
set_option maxRecDepth 100000 in
theorem runs_spec_DrawElementsOf (bs : List Int) (hp1 : OkBs bs) : ARuns Tryz.prog 62 [.sl none (.ints .u8 bs)] [] (.tup [.int .i64 (belowV bs (newC bs) 8 - 1), .int .i64 (belowV bs (belowC bs (newC bs) 8) 34 - 1)]) [] := by
  refine ARuns_bc G_spec_DrawElementsOf_ok is_spec_DrawElementsOf (by simp) fun hl hlB => ?_
  simp only [kcode_at, kreg_at, bc_seq, bc_ret, bc_region, afin_nil, cvE_some, resL, resV, cv, cvL, pack, entryE, inPrm, entryB, bxCells, Option.getD_some, acall_clo, kcall_nil, selOf, selA, inArgs, inA, inL, okA, okL, okBx, outA, outL, outU, outB, deep, deepL, boxIds, List.map_nil, List.map_cons, List.all_nil, List.all_cons, BEq.rfl, Bool.and_true, List.append_nil, aops_nil, aops_plain, kont_at, aop_move, aop_assign, aop_binOp, SC0, aop_call, evalE, getE, putE, getB, setB, St.put, setsB, AV.ofV, SC.len, List.length_nil, List.length_cons, Nat.reduceEqDiff, ↓reduceIte, true_and, and_true, List.nil_append, List.cons_append, aInt_sub, aBin_sub, aBinW_f, isW_sub, mp_nil, mp_one0, kcall_one, liveB_box, idx, dies, lend, lendA, lendDies, List.getD_cons_zero, List.getD_cons_succ, Nat.le_refl, Nat.reduceLT, List.flatMap_nil, List.flatMap_cons, Nat.zero_add, BEq.rfl, sl3, un3, sl22, sl51, inR64, gs_spec_DrawElementsOf_37, at_spec_l1New, lend_spec_l1New, gs_spec_DrawElementsOf_57, at_spec_l1Below, lend_spec_l1Below, cu_eta, Tryz.f62]
  have h0 := @belowV_bd bs (newC bs) 8 (by omega)
  have h1 := @belowC_nn bs (newC bs) 8 newC_nn
  have h2 := @belowV_bd bs (belowC bs (newC bs) 8) 34 (by omega)
  exact ⟨hp1, hp1, newC_nn, by omega, hp1, h1, by omega⟩
def lend_spec_DrawElementsOf : List Nat := []
def sp_spec_DrawElementsOf : List AV → List Bx → (AV → List Bx → Prop) → Prop
  | [.sl none (.ints .u8 bs)], [], K => (OkBs bs) ∧ K (.tup [.int .i64 (belowV bs (newC bs) 8 - 1), .int .i64 (belowV bs (belowC bs (newC bs) 8) 34 - 1)]) []
  | _, _, _ => False
theorem at_spec_DrawElementsOf {bs : List Int} {K : AV → List Bx → Prop} : sp_spec_DrawElementsOf [.sl none (.ints .u8 bs)] [] K = ((OkBs bs) ∧ K (.tup [.int .i64 (belowV bs (newC bs) 8 - 1), .int .i64 (belowV bs (belowC bs (newC bs) 8) 34 - 1)]) []) := id rfl
theorem ok_spec_DrawElementsOf : ∀ args giv K, sp_spec_DrawElementsOf args giv K → ∃ r outs, ARuns Tryz.prog 62 args giv r outs ∧ K r outs := by
  intro args giv K hk
  unfold sp_spec_DrawElementsOf at hk
  split at hk
  · obtain ⟨hp1, hk⟩ := hk; exact ⟨_, _, runs_spec_DrawElementsOf _ hp1, hk⟩
  · exact hk.elim
theorem is_spec_DrawFormatSet : FnIs Tryz.prog 26 13 [.tmp 2, .tmp 3] (Tryz.f26.body.getD .skip) := ⟨⟨Tryz.f26, by kernel_rfl, by kernel_rfl, by kernel_rfl, by kernel_rfl⟩, by kernel_rfl, by kernel_rfl⟩
def G_spec_DrawFormatSet : Gm := (Gm.none.add 62 lend_spec_DrawElementsOf sp_spec_DrawElementsOf)
theorem G_spec_DrawFormatSet_ok : G_spec_DrawFormatSet.ok Tryz.prog := (Gm.add_ok Gm.none_ok ok_spec_DrawElementsOf)
theorem gm_spec_DrawFormatSet {r : List Oper} {n : Nat} : splB G_spec_DrawFormatSet r n = true := rfl
theorem gs_spec_DrawFormatSet_62 : G_spec_DrawFormatSet.sp 62 = sp_spec_DrawElementsOf ∧ G_spec_DrawFormatSet.lend 62 = lend_spec_DrawElementsOf := ⟨rfl, rfl⟩
set_option maxHeartbeats 1000000 in
set_option maxRecDepth 100000 in
theorem runs_spec_DrawFormatSet (bs : List Int) (hp1 : OkBs bs) : ARuns Tryz.prog 26 [.sl none (.ints .u8 bs)] [] (.tup [.int .i64 (belowV bs (newC bs) 8 - 1), .int .i64 (belowV bs (belowC bs (newC bs) 8) 34 - 1)]) [] := by
  refine ARuns_bc G_spec_DrawFormatSet_ok is_spec_DrawFormatSet (by simp) fun hl hlB => ?_
  simp only [kcode_at, kreg_at, bc_seq, bc_ret, bc_region, afin_nil, cvE_some, resL, resV, cv, cvL, pack, entryE, inPrm, entryB, Option.getD_some, acall_clo, kcall_nil, selOf, inArgs, inA, inL, okA, okL, outA, outL, outU, deep, deepL, List.map_nil, List.map_cons, List.all_nil, List.all_cons, BEq.rfl, Bool.and_true, List.append_nil, aops_nil, aops_plain, kont_at, aop_move, aop_assign, aop_extract, SC0, aop_call, evalE, getE, putE, getB, St.put, setsB, AV.ofV, SC.len, List.length_nil, List.length_cons, Nat.reduceEqDiff, Nat.reduceAdd, ↓reduceIte, and_true, List.nil_append, List.cons_append, aExtr_tup, lend, List.getD_cons_zero, List.getD_cons_succ, Nat.reduceLT, Nat.zero_add, BEq.rfl, sl22, gs_spec_DrawFormatSet_62, at_spec_DrawElementsOf, lend_spec_DrawElementsOf, Tryz.f26]
  exact hp1
def lend_spec_DrawFormatSet : List Nat := []
def sp_spec_DrawFormatSet : List AV → List Bx → (AV → List Bx → Prop) → Prop
  | [.sl none (.ints .u8 bs)], [], K => (OkBs bs) ∧ K (.tup [.int .i64 (belowV bs (newC bs) 8 - 1), .int .i64 (belowV bs (belowC bs (newC bs) 8) 34 - 1)]) []
  | _, _, _ => False
theorem at_spec_DrawFormatSet {bs : List Int} {K : AV → List Bx → Prop} : sp_spec_DrawFormatSet [.sl none (.ints .u8 bs)] [] K = ((OkBs bs) ∧ K (.tup [.int .i64 (belowV bs (newC bs) 8 - 1), .int .i64 (belowV bs (belowC bs (newC bs) 8) 34 - 1)]) []) := id rfl
theorem ok_spec_DrawFormatSet : ∀ args giv K, sp_spec_DrawFormatSet args giv K → ∃ r outs, ARuns Tryz.prog 26 args giv r outs ∧ K r outs := by
  intro args giv K hk
  unfold sp_spec_DrawFormatSet at hk
  split at hk
  · obtain ⟨hp1, hk⟩ := hk; exact ⟨_, _, runs_spec_DrawFormatSet _ hp1, hk⟩
  · exact hk.elim
theorem is_spec_l1Once : FnIs Tryz.prog 63 9 [.tmp 4] (Tryz.f63.body.getD .skip) := ⟨⟨Tryz.f63, by kernel_rfl, by kernel_rfl, by kernel_rfl, by kernel_rfl⟩, by kernel_rfl, by kernel_rfl⟩
def G_spec_l1Once : Gm := (Gm.none.add 57 lend_spec_l1Below sp_spec_l1Below)
theorem G_spec_l1Once_ok : G_spec_l1Once.ok Tryz.prog := (Gm.add_ok Gm.none_ok ok_spec_l1Below)
theorem gm_spec_l1Once {r : List Oper} {n : Nat} : splB G_spec_l1Once r n = true := rfl
theorem gs_spec_l1Once_57 : G_spec_l1Once.sp 57 = sp_spec_l1Below ∧ G_spec_l1Once.lend 57 = lend_spec_l1Below := ⟨rfl, rfl⟩
set_option maxHeartbeats 1000000 in
set_option maxRecDepth 100000 in
theorem runs_spec_l1Once (bs : List Int) (i h n : Int) (hp1 : OkBs bs) (hp2 : 0 ≤ i) : ARuns Tryz.prog 63 [.ptr 0 0, .int .i64 n] [.box [.sl none (.ints .u8 bs), .int .i64 i, .int .i64 h]] (.bool (onceV bs (i, h) n)) [.box [.prm 2 (.ints .u8 bs), .int .i64 (belowC bs (i, h) n).1, .int .i64 (belowC bs (i, h) n).2]] := by
  refine ARuns_bc G_spec_l1Once_ok is_spec_l1Once (by simp) fun hl hlB => ?_
  simp only [kcode_at, kreg_at, bc_seq, bc_ret, bc_region, entryE, inPrm, entryB, inPrms, bxCells, Option.getD_some, acall_clo, selOf, selA, inArgs, inA, inL, okA, okL, okBx, outA, outL, outU, outB, deep, deepL, boxIds, List.map_nil, List.map_cons, List.all_nil, List.all_cons, BEq.rfl, Bool.and_true, List.append_nil, aops_nil, aops_plain, kont_at, aop_move, aop_assign, aop_binOp, SC0, aop_call, evalE, getE, putE, getB, setB, St.put, setsB, AV.ofV, SC.len, List.length_nil, List.length_cons, Nat.reduceEqDiff, Nat.reduceAdd, ↓reduceIte, true_and, and_true, List.nil_append, List.cons_append, aInt_eql, aBin_eql, aBinW_f, isW_eql, mp_one0, kcall_one, liveB_box, idx, dies, lend, lendA, lendDies, List.getD_cons_zero, List.getD_cons_succ, Nat.le_refl, Nat.reduceLT, List.flatMap_nil, List.flatMap_cons, Nat.zero_add, BEq.rfl, sl3, un3, sl51, gs_spec_l1Once_57, at_spec_l1Below, lend_spec_l1Below, Tryz.f63]
  exact ⟨hp1, hp2, afin_of [0] rfl rfl (by simp [St.conv, St.bf, getE, putE, getB, cv, cvL, cvB, idx, still, pack, lifts, liftOne, liftC, liftK, killB, cellsOfB, setB]; rfl) (by simp [St.conv, St.bf, getE, putE, getB, cv, cvL, cvB, idx, still, pack, lifts, liftOne, liftC, liftK, killB, cellsOfB, setB])⟩
def lend_spec_l1Once : List Nat := [0]
def sp_spec_l1Once : List AV → List Bx → (AV → List Bx → Prop) → Prop
  | [.ptr 0 0, .int .i64 n], [.box [.sl none (.ints .u8 bs), .int .i64 i, .int .i64 h]], K => (OkBs bs) ∧ (0 ≤ i) ∧ K (.bool (onceV bs (i, h) n)) [.box [.prm 2 (.ints .u8 bs), .int .i64 (belowC bs (i, h) n).1, .int .i64 (belowC bs (i, h) n).2]]
  | _, _, _ => False
theorem at_spec_l1Once {bs : List Int} {i h n : Int} {K : AV → List Bx → Prop} : sp_spec_l1Once [.ptr 0 0, .int .i64 n] [.box [.sl none (.ints .u8 bs), .int .i64 i, .int .i64 h]] K = ((OkBs bs) ∧ (0 ≤ i) ∧ K (.bool (onceV bs (i, h) n)) [.box [.prm 2 (.ints .u8 bs), .int .i64 (belowC bs (i, h) n).1, .int .i64 (belowC bs (i, h) n).2]]) := id rfl
theorem ok_spec_l1Once : ∀ args giv K, sp_spec_l1Once args giv K → ∃ r outs, ARuns Tryz.prog 63 args giv r outs ∧ K r outs := by
  intro args giv K hk
  unfold sp_spec_l1Once at hk
  split at hk
  · obtain ⟨hp1, hp2, hk⟩ := hk; exact ⟨_, _, runs_spec_l1Once _ _ _ _ hp1 hp2, hk⟩
  · exact hk.elim
theorem is_spec_DrawParseSet : FnIs Tryz.prog 27 24 [.tmp 2, .tmp 3] (Tryz.f27.body.getD .skip) := ⟨⟨Tryz.f27, by kernel_rfl, by kernel_rfl, by kernel_rfl, by kernel_rfl⟩, by kernel_rfl, by kernel_rfl⟩
def G_spec_DrawParseSet : Gm := (((((Gm.none.add 33 lend_spec_FormatSet sp_spec_FormatSet).add 37 lend_spec_l1New sp_spec_l1New).add 57 lend_spec_l1Below sp_spec_l1Below).add 60 lend_spec_l1Spoil sp_spec_l1Spoil).add 63 lend_spec_l1Once sp_spec_l1Once)
theorem G_spec_DrawParseSet_ok : G_spec_DrawParseSet.ok Tryz.prog := (Gm.add_ok (Gm.add_ok (Gm.add_ok (Gm.add_ok (Gm.add_ok Gm.none_ok ok_spec_FormatSet) ok_spec_l1New) ok_spec_l1Below) ok_spec_l1Spoil) ok_spec_l1Once)
theorem gm_spec_DrawParseSet {r : List Oper} {n : Nat} : splB G_spec_DrawParseSet r n = true := rfl
theorem gs_spec_DrawParseSet_33 : G_spec_DrawParseSet.sp 33 = sp_spec_FormatSet ∧ G_spec_DrawParseSet.lend 33 = lend_spec_FormatSet := ⟨rfl, rfl⟩
theorem gs_spec_DrawParseSet_37 : G_spec_DrawParseSet.sp 37 = sp_spec_l1New ∧ G_spec_DrawParseSet.lend 37 = lend_spec_l1New := ⟨rfl, rfl⟩
theorem gs_spec_DrawParseSet_57 : G_spec_DrawParseSet.sp 57 = sp_spec_l1Below ∧ G_spec_DrawParseSet.lend 57 = lend_spec_l1Below := ⟨rfl, rfl⟩
theorem gs_spec_DrawParseSet_60 : G_spec_DrawParseSet.sp 60 = sp_spec_l1Spoil ∧ G_spec_DrawParseSet.lend 60 = lend_spec_l1Spoil := ⟨rfl, rfl⟩
theorem gs_spec_DrawParseSet_63 : G_spec_DrawParseSet.sp 63 = sp_spec_l1Once ∧ G_spec_DrawParseSet.lend 63 = lend_spec_l1Once := ⟨rfl, rfl⟩
set_option maxHeartbeats 1000000 in
set_option maxRecDepth 100000 in
theorem runs_spec_DrawParseSet (bs : List Int) (hp1 : OkBs bs) : ARuns Tryz.prog 27 [.sl none (.ints .u8 bs)] [] (.tup [.int .i64 (dsN bs), .str (bst (dsS bs))]) [] := by
  refine ARuns_bc G_spec_DrawParseSet_ok is_spec_DrawParseSet (by simp) fun hl hlB => ?_
  simp only [kcode_at, kreg_at, bc_skip, bc_seq, bc_cond, bc_ret, bc_region, acond_tmp, aCase_b, afin_nil, cvE_some, resL, resV, cv, cvL, pack, entryE, inPrm, entryB, bxCells, Option.getD_some, acall_clo, kcall_nil, selOf, selA, inArgs, inA, inL, okA, okL, okBx, outA, outL, outU, outB, deep, deepL, boxIds, List.map_nil, List.map_cons, List.all_nil, List.all_cons, BEq.rfl, Bool.and_true, List.append_nil, aops_nil, aops_plain, kont_at, aop_move, aop_assign, aop_binOp, SC0, aop_call, evalE, getE, putE, getB, setB, St.put, setsB, AV.ofV, SC.len, List.length_nil, List.length_cons, Nat.reduceEqDiff, ↓reduceIte, true_and, and_true, List.nil_append, List.cons_append, aInt_sub, aBin_sub, aBinW_f, isW_sub, mp_nil, mp_one0, kcall_one, liveB_box, idx, dies, lend, lendA, lendDies, List.getD_cons_zero, List.getD_cons_succ, Nat.le_refl, Nat.reduceLT, List.flatMap_nil, List.flatMap_cons, Nat.zero_add, BEq.rfl, bst_mk, sl3, un3, sl9, sl22, sl51, inR64, gs_spec_DrawParseSet_33, at_spec_FormatSet, lend_spec_FormatSet, gs_spec_DrawParseSet_37, at_spec_l1New, lend_spec_l1New, gs_spec_DrawParseSet_57, at_spec_l1Below, lend_spec_l1Below, gs_spec_DrawParseSet_60, at_spec_l1Spoil, lend_spec_l1Spoil, gs_spec_DrawParseSet_63, at_spec_l1Once, lend_spec_l1Once, cu_eta, Tryz.f27]
  have hbx := @belowV_bd bs (newC bs) 9 (by omega)
  have hbn : 0 ≤ dsN bs + 1 ∧ dsN bs + 1 < 9 := by unfold dsN; omega
  have eN : belowV bs (newC bs) 9 - 1 = dsN bs := rfl
  have e1 : belowC bs (newC bs) 9 = dsC1 bs := rfl
  have e2 : belowC bs (dsC1 bs) 32 = dsC2 bs := rfl
  have eT : fmtS (dsN bs) (belowV bs (dsC1 bs) 32) = dsT bs := rfl
  rw [eN, e1, e2, eT]
  have n1 : 0 ≤ (dsC1 bs).1 := belowC_nn newC_nn
  have n2 : 0 ≤ (dsC2 bs).1 := belowC_nn n1
  have n3 : 0 ≤ (belowC bs (dsC2 bs) 3).1 := belowC_nn n2
  have hb := @belowV_bd bs (newC bs) 9 (by omega)
  have hl : (dsT bs).length ≤ 1302 := fmtS_len
  have hT : onceV bs (dsC2 bs) 3 = true → dsS bs = spoilV bs (belowC bs (dsC2 bs) 3) (dsT bs) := fun h => by unfold dsS; rw [if_pos h]
  have hF : onceV bs (dsC2 bs) 3 = false → dsS bs = dsT bs := fun h => by unfold dsS; rw [if_neg (by rw [h]; simp)]
  exact ⟨hp1, hp1, newC_nn, by omega, hp1, n1, hp1, n2, fun h => ⟨hp1, n3, by omega, by rw [hT h]⟩, fun h => by rw [hF h]⟩
def lend_spec_DrawParseSet : List Nat := []
def sp_spec_DrawParseSet : List AV → List Bx → (AV → List Bx → Prop) → Prop
  | [.sl none (.ints .u8 bs)], [], K => (OkBs bs) ∧ K (.tup [.int .i64 (dsN bs), .str (bst (dsS bs))]) []
  | _, _, _ => False
theorem at_spec_DrawParseSet {bs : List Int} {K : AV → List Bx → Prop} : sp_spec_DrawParseSet [.sl none (.ints .u8 bs)] [] K = ((OkBs bs) ∧ K (.tup [.int .i64 (dsN bs), .str (bst (dsS bs))]) []) := id rfl
theorem ok_spec_DrawParseSet : ∀ args giv K, sp_spec_DrawParseSet args giv K → ∃ r outs, ARuns Tryz.prog 27 args giv r outs ∧ K r outs := by
  intro args giv K hk
  unfold sp_spec_DrawParseSet at hk
  split at hk
  · obtain ⟨hp1, hk⟩ := hk; exact ⟨_, _, runs_spec_DrawParseSet _ hp1, hk⟩
  · exact hk.elim
theorem is_spec_DrawEqualFamilies : FnIs Tryz.prog 30 23 [ResultVar.cell 2 26, ResultVar.cell 3 26] (Tryz.f30.body.getD .skip) := ⟨⟨Tryz.f30, by kernel_rfl, by kernel_rfl, by kernel_rfl, by kernel_rfl⟩, by kernel_rfl, by kernel_rfl⟩
def G_spec_DrawEqualFamilies : Gm := (((Gm.none.add 36 lend_spec_l15Any sp_spec_l15Any).add 37 lend_spec_l1New sp_spec_l1New).add 63 lend_spec_l1Once sp_spec_l1Once)
theorem G_spec_DrawEqualFamilies_ok : G_spec_DrawEqualFamilies.ok Tryz.prog := (Gm.add_ok (Gm.add_ok (Gm.add_ok Gm.none_ok ok_spec_l15Any) ok_spec_l1New) ok_spec_l1Once)
theorem gm_spec_DrawEqualFamilies {r : List Oper} {n : Nat} : splB G_spec_DrawEqualFamilies r n = true := rfl
theorem gs_spec_DrawEqualFamilies_36 : G_spec_DrawEqualFamilies.sp 36 = sp_spec_l15Any ∧ G_spec_DrawEqualFamilies.lend 36 = lend_spec_l15Any := ⟨rfl, rfl⟩
theorem gs_spec_DrawEqualFamilies_37 : G_spec_DrawEqualFamilies.sp 37 = sp_spec_l1New ∧ G_spec_DrawEqualFamilies.lend 37 = lend_spec_l1New := ⟨rfl, rfl⟩
theorem gs_spec_DrawEqualFamilies_63 : G_spec_DrawEqualFamilies.sp 63 = sp_spec_l1Once ∧ G_spec_DrawEqualFamilies.lend 63 = lend_spec_l1Once := ⟨rfl, rfl⟩
set_option maxHeartbeats 1000000 in
set_option maxRecDepth 100000 in
theorem runs_spec_DrawEqualFamilies (bs : List Int) (hp1 : OkBs bs) : ARuns Tryz.prog 30 [.sl none (.ints .u8 bs)] [] (.tup [.agg [.int .i64 (anyN bs (newC bs)), .ref 0 (anyL bs (newC bs)).length], .agg [.int .i64 (deN bs), .ref 1 (deL bs).length]]) [.row 3 (.ints .i64 (anyL bs (newC bs))), .row 3 (.ints .i64 (deL bs))] := by
  refine ARuns_bc G_spec_DrawEqualFamilies_ok is_spec_DrawEqualFamilies (by simp) fun hl hlB => ?_
  simp only [kcode_at, kreg_at, bc_skip, bc_seq, bc_cond, bc_ret, bc_region, acond_tmp, aCase_b, entryE, inPrm, entryB, bxCells, Option.getD_some, acall_clo, kcall_nil, selOf, selA, inArgs, inA, inL, okA, okL, okBx, okC, outA, outL, outU, outB, deep, deepL, boxIds, AV.bid, List.map_nil, List.map_cons, List.all_nil, List.all_cons, BEq.rfl, Bool.and_true, List.append_nil, aops_nil, aops_plain, kont_at, aop_move, aop_assign, aop_alloc, aop_build, aop_buildSlice, aop_load, aop_store, aop_fieldAddr, slTy2, SC0, aop_append, aop_call, evalE, getE, putE, getB, setB, St.put, setsB, AV.ofV, AV.blk, AV.bid, AV.one, SC.len, List.length_nil, List.length_cons, Nat.reduceEqDiff, Nat.reduceAdd, ↓reduceIte, true_and, and_true, List.nil_append, List.cons_append, aAlloc_flat, aBuild_flat, aField_ptr, aBuildL_some, aBuildS_some, aLoad_1b, aLoad_fb, aStore_f, aApp_some, aAppend_ref, bc_draw, kregD_at, aopsD_nil, aopsD_plain, kontD_at, splW_t, contD_at, splD_undef, splD_int, splD_ref, splD_ptr, splD_agg, addTr_nil, addTr_cons, memQ_nil, memQ_cons, clash_nil, clash_cons, regC_none, regC_nil, regC_cons, regR_nil, regR_cons, rng0, mp_nil, mp_one0, mp_one1, kcall_one, liveB_box, idx, cont, still, dies, lend, lendA, lendDies, snocs, SC.app, fillA, List.getD_cons_zero, List.getD_cons_succ, List.set_cons_zero, List.set_cons_succ, Nat.le_refl, Nat.reduceLT, Nat.reduceLeDiff, List.flatMap_nil, List.flatMap_cons, Nat.zero_add, BEq.rfl, sl3, ty3, sl24, ty24, sl22, sl51, ty26, gm_spec_DrawEqualFamilies, gs_spec_DrawEqualFamilies_36, at_spec_l15Any, lend_spec_l15Any, gs_spec_DrawEqualFamilies_37, at_spec_l1New, lend_spec_l1New, gs_spec_DrawEqualFamilies_63, at_spec_l1Once, lend_spec_l1Once, cu_eta, Tryz.f30]
  have hl7 := @anyL_len bs (newC bs)
  have c1 := @anyC_nn bs (newC bs) newC_nn
  have c2 := @belowC_nn bs (anyC bs (newC bs)) 2 c1
  refine ⟨hp1, hp1, newC_nn, hp1, c1, fun h => ⟨by omega, by simp, (by (repeat' apply And.intro) <;> (show ordB _ _ _ = true; kernel_rfl)), ?_⟩, fun h => ⟨hp1, c2, ?_⟩⟩
  · have e1 : deN bs = anyN bs (newC bs) := by unfold deN; rw [if_pos (show deT bs = true from h)]
    have e2 : deL bs = anyL bs (newC bs) := by unfold deL; rw [if_pos (show deT bs = true from h)]
    rw [e1, e2]
    exact afin_of [3, 5] rfl (by simp only [resL, resV, resC, getE, putE, getB, setB, lifts, liftOne, liftC, liftK, killB, cellsOfB, List.length_cons, List.length_nil, List.nil_append, List.cons_append, Nat.reduceAdd, Nat.reduceEqDiff, ↓reduceIte, ty3, ty67, ty120, ty118, ty5, ty2, ty21, ty4, ty9, ty24, ty22, ty53, ty26, ty81]; rfl) (by simp [St.conv, St.bf, getE, putE, getB, cv, cvL, cvB, idx, still, pack, lifts, liftOne, liftC, liftK, killB, cellsOfB, setB]) (by simp [St.conv, St.bf, getE, putE, getB, cv, cvL, cvB, idx, still, pack, lifts, liftOne, liftC, liftK, killB, cellsOfB, setB])
  · have hn : ¬ deT bs = true := by show ¬ onceV bs (anyC bs (newC bs)) 2 = true; rw [h]; simp
    have e1 : deN bs = anyN bs (deC bs) := by unfold deN; rw [if_neg hn]
    have e2 : deL bs = anyL bs (deC bs) := by unfold deL; rw [if_neg hn]
    rw [e1, e2]
    have e3 : belowC bs (anyC bs (newC bs)) 2 = deC bs := rfl
    rw [e3]
    exact afin_of [3, 5] rfl (by simp only [resL, resV, resC, getE, putE, getB, setB, lifts, liftOne, liftC, liftK, killB, cellsOfB, List.length_cons, List.length_nil, List.nil_append, List.cons_append, Nat.reduceAdd, Nat.reduceEqDiff, ↓reduceIte, ty3, ty67, ty120, ty118, ty5, ty2, ty21, ty4, ty9, ty24, ty22, ty53, ty26, ty81]; rfl) (by simp [St.conv, St.bf, getE, putE, getB, cv, cvL, cvB, idx, still, pack, lifts, liftOne, liftC, liftK, killB, cellsOfB, setB]) (by simp [St.conv, St.bf, getE, putE, getB, cv, cvL, cvB, idx, still, pack, lifts, liftOne, liftC, liftK, killB, cellsOfB, setB])
def lend_spec_DrawEqualFamilies : List Nat := []
def sp_spec_DrawEqualFamilies : List AV → List Bx → (AV → List Bx → Prop) → Prop
  | [.sl none (.ints .u8 bs)], [], K => (OkBs bs) ∧ K (.tup [.agg [.int .i64 (anyN bs (newC bs)), .ref 0 (anyL bs (newC bs)).length], .agg [.int .i64 (deN bs), .ref 1 (deL bs).length]]) [.row 3 (.ints .i64 (anyL bs (newC bs))), .row 3 (.ints .i64 (deL bs))]
  | _, _, _ => False
theorem at_spec_DrawEqualFamilies {bs : List Int} {K : AV → List Bx → Prop} : sp_spec_DrawEqualFamilies [.sl none (.ints .u8 bs)] [] K = ((OkBs bs) ∧ K (.tup [.agg [.int .i64 (anyN bs (newC bs)), .ref 0 (anyL bs (newC bs)).length], .agg [.int .i64 (deN bs), .ref 1 (deL bs).length]]) [.row 3 (.ints .i64 (anyL bs (newC bs))), .row 3 (.ints .i64 (deL bs))]) := id rfl
theorem ok_spec_DrawEqualFamilies : ∀ args giv K, sp_spec_DrawEqualFamilies args giv K → ∃ r outs, ARuns Tryz.prog 30 args giv r outs ∧ K r outs := by
  intro args giv K hk
  unfold sp_spec_DrawEqualFamilies at hk
  split at hk
  · obtain ⟨hp1, hk⟩ := hk; exact ⟨_, _, runs_spec_DrawEqualFamilies _ hp1, hk⟩
  · exact hk.elim
theorem is_spec_l15Both : FnIs Tryz.prog 66 14 [ResultVar.cell 2 26, .tmp 3] (Tryz.f66.body.getD .skip) := ⟨⟨Tryz.f66, by kernel_rfl, by kernel_rfl, by kernel_rfl, by kernel_rfl⟩, by kernel_rfl, by kernel_rfl⟩
def G_spec_l15Both : Gm := (((Gm.none.add 36 lend_spec_l15Any sp_spec_l15Any).add 37 lend_spec_l1New sp_spec_l1New).add 57 lend_spec_l1Below sp_spec_l1Below)
theorem G_spec_l15Both_ok : G_spec_l15Both.ok Tryz.prog := (Gm.add_ok (Gm.add_ok (Gm.add_ok Gm.none_ok ok_spec_l15Any) ok_spec_l1New) ok_spec_l1Below)
theorem gm_spec_l15Both {r : List Oper} {n : Nat} : splB G_spec_l15Both r n = true := rfl
theorem gs_spec_l15Both_36 : G_spec_l15Both.sp 36 = sp_spec_l15Any ∧ G_spec_l15Both.lend 36 = lend_spec_l15Any := ⟨rfl, rfl⟩
theorem gs_spec_l15Both_37 : G_spec_l15Both.sp 37 = sp_spec_l1New ∧ G_spec_l15Both.lend 37 = lend_spec_l1New := ⟨rfl, rfl⟩
theorem gs_spec_l15Both_57 : G_spec_l15Both.sp 57 = sp_spec_l1Below ∧ G_spec_l15Both.lend 57 = lend_spec_l1Below := ⟨rfl, rfl⟩
set_option maxHeartbeats 1000000 in
set_option maxRecDepth 100000 in
theorem runs_spec_l15Both (bs : List Int) (hp1 : OkBs bs) : ARuns Tryz.prog 66 [.sl none (.ints .u8 bs)] [] (.tup [.agg [.int .i64 (anyN bs (newC bs)), .ref 0 (anyL bs (newC bs)).length], .int .i64 (belowV bs (anyC bs (newC bs)) 34 - 1)]) [.row 3 (.ints .i64 (anyL bs (newC bs)))] := by
  refine ARuns_bc G_spec_l15Both_ok is_spec_l15Both (by simp) fun hl hlB => ?_
  simp only [kcode_at, kreg_at, bc_seq, bc_ret, bc_region, entryE, inPrm, entryB, bxCells, Option.getD_some, acall_clo, kcall_nil, selOf, selA, inArgs, inA, inL, okA, okL, okBx, okC, outA, outL, outU, outB, deep, deepL, boxIds, List.map_nil, List.map_cons, List.all_nil, List.all_cons, BEq.rfl, Bool.and_true, List.append_nil, aops_nil, aops_plain, kont_at, aop_move, aop_assign, aop_alloc, aop_load, aop_store, aop_binOp, SC0, aop_call, evalE, getE, putE, getB, setB, St.put, setsB, AV.ofV, AV.blk, AV.one, SC.len, List.length_nil, List.length_cons, Nat.reduceEqDiff, Nat.reduceAdd, ↓reduceIte, true_and, and_true, List.nil_append, List.cons_append, aAlloc_flat, aInt_sub, aBin_sub, aLoad_fb, aStore_f, aBinW_f, isW_sub, bc_draw, kregD_at, aopsD_nil, aopsD_plain, kontD_at, splW_t, contD_at, splD_undef, splD_int, splD_ptr, splD_agg, addTr_nil, addTr_cons, memQ_nil, memQ_cons, clash_nil, clash_cons, regC_none, regC_nil, regC_cons, regR_nil, regR_cons, mp_nil, mp_one0, mp_one1, kcall_one, liveB_box, idx, dies, lend, lendA, lendDies, List.getD_cons_zero, List.getD_cons_succ, Nat.le_refl, Nat.reduceLT, Nat.reduceLeDiff, List.flatMap_nil, List.flatMap_cons, Nat.zero_add, BEq.rfl, sl3, un3, sl22, sl51, ty26, inR64, gm_spec_l15Both, gs_spec_l15Both_36, at_spec_l15Any, lend_spec_l15Any, gs_spec_l15Both_37, at_spec_l1New, lend_spec_l1New, gs_spec_l15Both_57, at_spec_l1Below, lend_spec_l1Below, cu_eta, Tryz.f66]
  have h1 := @anyC_nn bs (newC bs) newC_nn
  have h2 := @belowV_bd bs (anyC bs (newC bs)) 34 (by omega)
  exact ⟨hp1, hp1, newC_nn, hp1, h1, by omega, afin_of [2] rfl (by simp only [resL, resV, resC, getE, putE, getB, setB, lifts, liftOne, liftC, liftK, killB, cellsOfB, List.length_cons, List.length_nil, List.nil_append, List.cons_append, Nat.reduceAdd, Nat.reduceEqDiff, ↓reduceIte, ty3, ty67, ty120, ty118, ty5, ty2, ty21, ty4, ty9, ty24, ty22, ty53, ty26, ty81]; rfl) (by simp [St.conv, St.bf, getE, putE, getB, cv, cvL, cvB, idx, still, pack, lifts, liftOne, liftC, liftK, killB, cellsOfB, setB]) (by simp [St.conv, St.bf, getE, putE, getB, cv, cvL, cvB, idx, still, pack, lifts, liftOne, liftC, liftK, killB, cellsOfB, setB])⟩
def lend_spec_l15Both : List Nat := []
def sp_spec_l15Both : List AV → List Bx → (AV → List Bx → Prop) → Prop
  | [.sl none (.ints .u8 bs)], [], K => (OkBs bs) ∧ K (.tup [.agg [.int .i64 (anyN bs (newC bs)), .ref 0 (anyL bs (newC bs)).length], .int .i64 (belowV bs (anyC bs (newC bs)) 34 - 1)]) [.row 3 (.ints .i64 (anyL bs (newC bs)))]
  | _, _, _ => False
theorem at_spec_l15Both {bs : List Int} {K : AV → List Bx → Prop} : sp_spec_l15Both [.sl none (.ints .u8 bs)] [] K = ((OkBs bs) ∧ K (.tup [.agg [.int .i64 (anyN bs (newC bs)), .ref 0 (anyL bs (newC bs)).length], .int .i64 (belowV bs (anyC bs (newC bs)) 34 - 1)]) [.row 3 (.ints .i64 (anyL bs (newC bs)))]) := id rfl
theorem ok_spec_l15Both : ∀ args giv K, sp_spec_l15Both args giv K → ∃ r outs, ARuns Tryz.prog 66 args giv r outs ∧ K r outs := by
  intro args giv K hk
  unfold sp_spec_l15Both at hk
  split at hk
  · obtain ⟨hp1, hk⟩ := hk; exact ⟨_, _, runs_spec_l15Both _ hp1, hk⟩
  · exact hk.elim
theorem is_spec_DrawDegreeOf : FnIs Tryz.prog 31 15 [ResultVar.cell 2 26, .tmp 3] (Tryz.f31.body.getD .skip) := ⟨⟨Tryz.f31, by kernel_rfl, by kernel_rfl, by kernel_rfl, by kernel_rfl⟩, by kernel_rfl, by kernel_rfl⟩
def G_spec_DrawDegreeOf : Gm := (Gm.none.add 66 lend_spec_l15Both sp_spec_l15Both)
theorem G_spec_DrawDegreeOf_ok : G_spec_DrawDegreeOf.ok Tryz.prog := (Gm.add_ok Gm.none_ok ok_spec_l15Both)
theorem gm_spec_DrawDegreeOf {r : List Oper} {n : Nat} : splB G_spec_DrawDegreeOf r n = true := rfl
theorem gs_spec_DrawDegreeOf_66 : G_spec_DrawDegreeOf.sp 66 = sp_spec_l15Both ∧ G_spec_DrawDegreeOf.lend 66 = lend_spec_l15Both := ⟨rfl, rfl⟩
set_option maxHeartbeats 1000000 in
set_option maxRecDepth 100000 in
theorem runs_spec_DrawDegreeOf (bs : List Int) (hp1 : OkBs bs) : ARuns Tryz.prog 31 [.sl none (.ints .u8 bs)] [] (.tup [.agg [.int .i64 (anyN bs (newC bs)), .ref 0 (anyL bs (newC bs)).length], .int .i64 ((belowV bs (anyC bs (newC bs)) 34 - 1).tmod 8 - 1)]) [.row 3 (.ints .i64 (anyL bs (newC bs)))] := by
  refine ARuns_bc G_spec_DrawDegreeOf_ok is_spec_DrawDegreeOf (by simp) fun hl hlB => ?_
  simp only [kcode_at, kreg_at, bc_seq, bc_ret, bc_region, entryE, inPrm, entryB, Option.getD_some, acall_clo, kcall_nil, selOf, inArgs, inA, inL, okA, okL, okBx, okC, outA, outL, outU, outB, deep, deepL, List.map_nil, List.map_cons, List.all_nil, List.all_cons, BEq.rfl, Bool.and_true, List.append_nil, aops_nil, aops_plain, kont_at, aop_move, aop_assign, aop_alloc, aop_load, aop_store, aop_binOp, aop_extract, SC0, aop_call, evalE, getE, putE, getB, setB, St.put, setsB, AV.ofV, AV.blk, AV.one, SC.len, List.length_nil, List.length_cons, Nat.reduceEqDiff, Nat.reduceAdd, ↓reduceIte, true_and, and_true, List.nil_append, List.cons_append, aAlloc_flat, aInt_sub, aBin_sub, aInt_rem, aBin_rem, aExtr_tup, aLoad_fb, aStore_f, aBinW_f, isW_sub, isW_rem, mp_nil, lend, List.getD_cons_zero, List.getD_cons_succ, Nat.reduceLT, Nat.zero_add, BEq.rfl, un3, sl22, ty26, inR64, gs_spec_DrawDegreeOf_66, at_spec_l15Both, lend_spec_l15Both, Tryz.f31]
  have h2 := @belowV_bd bs (anyC bs (newC bs)) 34 (by omega)
  have hm : ((belowV bs (anyC bs (newC bs)) 34 - 1).tmod 8).natAbs = (belowV bs (anyC bs (newC bs)) 34 - 1).natAbs % 8 := by rw [Int.natAbs_tmod]; rfl
  exact ⟨hp1, by decide, by omega, afin_of [1] rfl (by simp only [resL, resV, resC, getE, putE, getB, setB, lifts, liftOne, liftC, liftK, killB, cellsOfB, List.length_cons, List.length_nil, List.nil_append, List.cons_append, Nat.reduceAdd, Nat.reduceEqDiff, ↓reduceIte, ty3, ty67, ty120, ty118, ty5, ty2, ty21, ty4, ty9, ty24, ty22, ty53, ty26, ty81]; rfl) (by simp [St.conv, St.bf, getE, putE, getB, cv, cvL, cvB, idx, still, pack, lifts, liftOne, liftC, liftK, killB, cellsOfB, setB]) (by simp [St.conv, St.bf, getE, putE, getB, cv, cvL, cvB, idx, still, pack, lifts, liftOne, liftC, liftK, killB, cellsOfB, setB])⟩
def lend_spec_DrawDegreeOf : List Nat := []
def sp_spec_DrawDegreeOf : List AV → List Bx → (AV → List Bx → Prop) → Prop
  | [.sl none (.ints .u8 bs)], [], K => (OkBs bs) ∧ K (.tup [.agg [.int .i64 (anyN bs (newC bs)), .ref 0 (anyL bs (newC bs)).length], .int .i64 ((belowV bs (anyC bs (newC bs)) 34 - 1).tmod 8 - 1)]) [.row 3 (.ints .i64 (anyL bs (newC bs)))]
  | _, _, _ => False
theorem at_spec_DrawDegreeOf {bs : List Int} {K : AV → List Bx → Prop} : sp_spec_DrawDegreeOf [.sl none (.ints .u8 bs)] [] K = ((OkBs bs) ∧ K (.tup [.agg [.int .i64 (anyN bs (newC bs)), .ref 0 (anyL bs (newC bs)).length], .int .i64 ((belowV bs (anyC bs (newC bs)) 34 - 1).tmod 8 - 1)]) [.row 3 (.ints .i64 (anyL bs (newC bs)))]) := id rfl
theorem ok_spec_DrawDegreeOf : ∀ args giv K, sp_spec_DrawDegreeOf args giv K → ∃ r outs, ARuns Tryz.prog 31 args giv r outs ∧ K r outs := by
  intro args giv K hk
  unfold sp_spec_DrawDegreeOf at hk
  split at hk
  · obtain ⟨hp1, hk⟩ := hk; exact ⟨_, _, runs_spec_DrawDegreeOf _ hp1, hk⟩
  · exact hk.elim
theorem is_slices_Equal_int_int : FnIs Tryz.prog 71 26 [.tmp 4] (Tryz.f71.body.getD .skip) := ⟨⟨Tryz.f71, by kernel_rfl, by kernel_rfl, by kernel_rfl, by kernel_rfl⟩, by kernel_rfl, by kernel_rfl⟩
def G_slices_Equal_int_int : Gm := Gm.none
theorem G_slices_Equal_int_int_ok : G_slices_Equal_int_int.ok Tryz.prog := Gm.none_ok
theorem gm_slices_Equal_int_int {r : List Oper} {n : Nat} : splB G_slices_Equal_int_int r n = true := rfl
set_option maxHeartbeats 1000000 in
set_option maxRecDepth 100000 in
theorem runs_slices_Equal_int_int (xs ys : List Int) : ARuns Tryz.prog 71 [.sl none (.ints .i64 xs), .sl none (.ints .i64 ys)] [] (.bool (decide (xs = ys))) [] := by
  refine ARuns_bc G_slices_Equal_int_int_ok is_slices_Equal_int_int (by simp) fun hl hlB => ?_
  simp only [kcode_at, kreg_at, bc_skip, bc_seq, bc_cond, bc_block, bc_ret, bc_region, acond_tmp, aCase_b, afin_nil, cvE_some, resL, resV, cv, pack, entryE, inPrm, entryB, Option.getD_some, aops_nil, aops_plain, kont_at, aop_move, aop_assign, aop_binOp, aop_len, evalE, getE, putE, getB, St.put, setsB, AV.ofV, SC.len, List.length_nil, Nat.reduceEqDiff, ↓reduceIte, true_and, decide_eq_true_eq, Bool.not_eq_true', Bool.not_eq_false', decide_eq_false_iff_not, List.nil_append, List.cons_append, aInt_neq, aBin_neq, aLen_prm, aBinW_f, isW_tmp, Nat.zero_add, un3, un24, Tryz.f71]
  simp only [lensA, lenA, lenSC] at hl
  refine ⟨fun h => ?_, fun h => ?_⟩
  · congr 1; symm; simp; intro e; rw [e] at h; exact h rfl
  replace h : xs.length = ys.length := by omega
  refine bc_loop (fun i : Nat => i ≤ xs.length ∧ ∀ k, k < i → xs.getD k 0 = ys.getD k 0)
    (fun i => ⟨[(0, .prm 0 (.ints .i64 xs)), (1, .prm 1 (.ints .i64 ys)), (12, .int .i64 xs.length), (13, .int .i64 i)], []⟩) (fun i => xs.length - i)
    [0, 1, 12, 13] [] 0 rfl (by simp [St.conv, St.bf, getE, putE, getB, cv, cvL, cvB, idx, still, pack, lifts, liftOne, liftC, liftK, killB, cellsOfB, setB]) (by simp) fun i ⟨h1, h2⟩ => ?_
  simp only [kcode_at, kreg_at, bc_skip, bc_seq, bc_cond, bc_block, bc_exit, bc_ret, bc_region, lkX_cons, acond_tmp, aCase_t, aCase_f, aCase_b, afin_nil, cvE_some, resL, resV, cv, pack, aops_nil, aops_plain, kont_at, aop_move, aop_assign, aop_load, aop_binOp, aop_indexAddr, evalE, getE, putE, getB, St.put, setsB, AV.ofV, SC.len, SC.get, List.length_nil, Nat.reduceEqDiff, Nat.reduceAdd, ↓reduceIte, true_and, decide_eq_true_eq, Bool.not_eq_true', Bool.not_eq_false', decide_eq_false_iff_not, Option.isSome, List.nil_append, List.cons_append, aInt_add, aBin_add, aInt_neq, aBin_neq, aInt_lss, aBin_lss, aIdx_prm, aLoad_ep, aBinW_f, isW_tmp, isW_addc, Int.reduceLT, aBinW_dF, bc_draw, kregD_at, aopsD_nil, aopsD_plain, kontD_at, splW_t, contD_at, splD_bool, splD_int, splD_prm, splD_ep, addTr_nil, regR_nil, Nat.zero_add, ty3, un3, sl24, inR64, gm_slices_Equal_int_int, Int.toNat_natCast]
  refine ⟨fun hi => ⟨by omega, by omega, fun hne => ?_, fun he => ⟨by omega, ?_⟩⟩, fun hi => ?_⟩
  · congr 1; symm; simp; intro e; rw [e] at hne; exact hne rfl
  · refine klp_of (i + 1) (by simp [St.conv, St.bf, getE, putE, getB, cv, cvL, cvB, idx, still, pack, lifts, liftOne, liftC, liftK, killB, cellsOfB, setB]) ⟨by omega, fun k hk => ?_⟩ (by omega)
    by_cases e : k = i
    · rw [e]; exact he
    · exact h2 k (by omega)
  · congr 1; symm; simp
    exact eq_of_get h fun k hk => h2 k (by omega)
def lend_slices_Equal_int_int : List Nat := []
def sp_slices_Equal_int_int : List AV → List Bx → (AV → List Bx → Prop) → Prop
  | [.sl none (.ints .i64 xs), .sl none (.ints .i64 ys)], [], K => K (.bool (decide (xs = ys))) []
  | _, _, _ => False
theorem at_slices_Equal_int_int {xs ys : List Int} {K : AV → List Bx → Prop} : sp_slices_Equal_int_int [.sl none (.ints .i64 xs), .sl none (.ints .i64 ys)] [] K = (K (.bool (decide (xs = ys))) []) := id rfl
theorem ok_slices_Equal_int_int : ∀ args giv K, sp_slices_Equal_int_int args giv K → ∃ r outs, ARuns Tryz.prog 71 args giv r outs ∧ K r outs := by
  intro args giv K hk
  unfold sp_slices_Equal_int_int at hk
  split at hk
  · exact ⟨_, _, runs_slices_Equal_int_int _ _ , hk⟩
  · exact hk.elim
theorem is_impl_EqualFamilies : FnIs Tryz.prog 34 17 [.tmp 4] (Tryz.f34.body.getD .skip) := ⟨⟨Tryz.f34, by kernel_rfl, by kernel_rfl, by kernel_rfl, by kernel_rfl⟩, by kernel_rfl, by kernel_rfl⟩
def G_impl_EqualFamilies : Gm := (Gm.none.add 71 lend_slices_Equal_int_int sp_slices_Equal_int_int)
theorem G_impl_EqualFamilies_ok : G_impl_EqualFamilies.ok Tryz.prog := (Gm.add_ok Gm.none_ok ok_slices_Equal_int_int)
theorem gm_impl_EqualFamilies {r : List Oper} {n : Nat} : splB G_impl_EqualFamilies r n = true := rfl
theorem gs_impl_EqualFamilies_71 : G_impl_EqualFamilies.sp 71 = sp_slices_Equal_int_int ∧ G_impl_EqualFamilies.lend 71 = lend_slices_Equal_int_int := ⟨rfl, rfl⟩
set_option maxHeartbeats 1000000 in
set_option maxRecDepth 100000 in
theorem runs_impl_EqualFamilies (n : Int) (xs : List Int) (m : Int) (ys : List Int) : ARuns Tryz.prog 34 [.agg [.int .i64 n, .sl none (.ints .i64 xs)], .agg [.int .i64 m, .sl none (.ints .i64 ys)]] [] (.bool (decide (n = m) && decide (xs = ys))) [] := by
  refine ARuns_bc G_impl_EqualFamilies_ok is_impl_EqualFamilies (by simp) fun hl hlB => ?_
  simp only [kcode_at, kreg_at, bc_seq, bc_ret, bc_region, afin_nil, cvE_some, resL, resV, cv, pack, entryE, inPrm, entryB, Option.getD_some, acall_clo, kcall_nil, selOf, inArgs, inA, inL, okA, outA, outU, deep, deepL, List.map_nil, List.map_cons, List.all_nil, List.all_cons, BEq.rfl, Bool.and_true, List.append_nil, aops_nil, aops_plain, aops_guard, kont_at, yes_at, no_at, aop_move, aop_assign, aop_pick, aop_box, aop_load, aop_binOp, aop_fieldAddr, SC0, aop_call, evalE, getE, putE, getB, setB, St.put, setsB, nth, AV.ofV, AV.blk, SC.len, List.length_nil, List.length_cons, Nat.reduceEqDiff, Nat.reduceAdd, ↓reduceIte, true_and, and_true, decide_eq_true_eq, decide_eq_false_iff_not, List.nil_append, List.cons_append, aGuardO_some, aGuard_tt, aGuard_tf, aGuard_tb, aPick_t, aPick_f, aBox_some, aInt_eql, aBin_eql, aField_ptr, aLoad_1b, aBinW_f, isW_tmp, lend, AV.cells, List.getD_cons_zero, List.getD_cons_succ, Nat.reduceLT, Nat.zero_add, BEq.rfl, ty3, un3, sl24, ty24, ty26, gs_impl_EqualFamilies_71, at_slices_Equal_int_int, lend_slices_Equal_int_int, Tryz.f34]
  refine ⟨fun h => by rw [decide_eq_true h]; rfl, fun h => by rw [decide_eq_false h]; rfl⟩
def lend_impl_EqualFamilies : List Nat := []
def sp_impl_EqualFamilies : List AV → List Bx → (AV → List Bx → Prop) → Prop
  | [.agg [.int .i64 n, .sl none (.ints .i64 xs)], .agg [.int .i64 m, .sl none (.ints .i64 ys)]], [], K => K (.bool (decide (n = m) && decide (xs = ys))) []
  | _, _, _ => False
theorem at_impl_EqualFamilies {n : Int} {xs : List Int} {m : Int} {ys : List Int} {K : AV → List Bx → Prop} : sp_impl_EqualFamilies [.agg [.int .i64 n, .sl none (.ints .i64 xs)], .agg [.int .i64 m, .sl none (.ints .i64 ys)]] [] K = (K (.bool (decide (n = m) && decide (xs = ys))) []) := id rfl
theorem ok_impl_EqualFamilies : ∀ args giv K, sp_impl_EqualFamilies args giv K → ∃ r outs, ARuns Tryz.prog 34 args giv r outs ∧ K r outs := by
  intro args giv K hk
  unfold sp_impl_EqualFamilies at hk
  split at hk
  · exact ⟨_, _, runs_impl_EqualFamilies _ _ _ _ , hk⟩
  · exact hk.elim
theorem is_spec_DegreeOf : FnIs Tryz.prog 35 36 [.tmp 4] (Tryz.f35.body.getD .skip) := ⟨⟨Tryz.f35, by kernel_rfl, by kernel_rfl, by kernel_rfl, by kernel_rfl⟩, by kernel_rfl, by kernel_rfl⟩
def G_spec_DegreeOf : Gm := ((Gm.none.add 9 lend_spec_IsFamily sp_spec_IsFamily).add 41 lend_spec_l1In sp_spec_l1In)
theorem G_spec_DegreeOf_ok : G_spec_DegreeOf.ok Tryz.prog := (Gm.add_ok (Gm.add_ok Gm.none_ok ok_spec_IsFamily) ok_spec_l1In)
theorem gm_spec_DegreeOf {r : List Oper} {n : Nat} : splB G_spec_DegreeOf r n = true := rfl
theorem gs_spec_DegreeOf_9 : G_spec_DegreeOf.sp 9 = sp_spec_IsFamily ∧ G_spec_DegreeOf.lend 9 = lend_spec_IsFamily := ⟨rfl, rfl⟩
theorem gs_spec_DegreeOf_41 : G_spec_DegreeOf.sp 41 = sp_spec_l1In ∧ G_spec_DegreeOf.lend 41 = lend_spec_l1In := ⟨rfl, rfl⟩
set_option maxHeartbeats 1000000 in
set_option maxRecDepth 100000 in
theorem runs_spec_DegreeOf (n : Int) (xs : List Int) (e : Int) : ARuns Tryz.prog 35 [.agg [.int .i64 n, .sl none (.ints .i64 xs)], .int .i64 e] [] (.int .i64 (degI n xs e)) [] := by
  refine ARuns_bc G_spec_DegreeOf_ok is_spec_DegreeOf (by simp) fun hl hlB => ?_
  simp only [kcode_at, kreg_at, bc_skip, bc_seq, bc_cond, bc_block, bc_ret, bc_region, acond_tmp, aCase_t, aCase_b, afin_nil, cvE_some, resL, resV, cv, pack, entryE, inPrm, entryB, Option.getD_some, acall_clo, kcall_nil, selOf, inArgs, inA, inL, okA, outA, outU, deep, deepL, List.map_nil, List.map_cons, List.all_nil, List.all_cons, BEq.rfl, Bool.and_true, List.append_nil, aops_nil, aops_plain, aops_guard, kont_at, yes_at, no_at, aop_move, aop_assign, aop_pick, aop_box, aop_load, aop_binOp, aop_unOp, aop_fieldAddr, SC0, aop_call, evalE, getE, putE, getB, setB, St.put, setsB, nth, AV.ofV, AV.blk, SC.len, List.length_nil, List.length_cons, Nat.reduceEqDiff, Nat.reduceAdd, ↓reduceIte, true_and, and_true, Bool.not_eq_true', Bool.not_eq_false', List.nil_append, List.cons_append, aGuardO_some, aGuard_ft, aGuard_ff, aGuard_fb, aPick_t, aPick_f, aBox_some, aInt_sub, aBin_sub, aUn_b, aField_ptr, aLoad_1b, aLoad_fb, aBinW_f, isW_sub, lend, AV.cells, List.getD_cons_zero, Nat.reduceLT, Nat.zero_add, BEq.rfl, sl3, ty3, un3, ty26, sl26, inR64, gs_spec_DegreeOf_9, at_spec_IsFamily, lend_spec_IsFamily, gs_spec_DegreeOf_41, at_spec_l1In, lend_spec_l1In, Tryz.f35]
  simp only [lensA, lenA, lenSC] at hl
  refine ⟨fun h => by rw [degI_f (.inl h)], fun hf => ?_⟩
  have hb := famB_bd hf
  refine ⟨by omega, fun h => by rw [degI_f (.inr h)], fun he => ?_⟩
  rw [degI_t hf he]
  rw [inB_t] at he
  refine bc_loop (fun i : Nat => i ≤ xs.length)
    (fun i => ⟨[(1, .int .i64 e), (2, .ptr 0 0), (5, .int .i64 (degF xs e i)), (6, .int .i64 i)], [.box [.int .i64 n, .sl none (.ints .i64 xs)]]⟩) (fun i => xs.length - i)
    [1, 2, 5, 6] [0] 0 rfl (by simp [St.conv, St.bf, getE, putE, getB, cv, cvL, cvB, idx, still, pack, lifts, liftOne, liftC, liftK, killB, cellsOfB, setB]; rfl) (by simp) fun i h1 => ?_
  simp only [kcode_at, kreg_at, bc_skip, bc_seq, bc_cond, bc_block, bc_exit, bc_ret, bc_region, lkX_cons, acond_tmp, aCase_b, afin_nil, cvE_some, resL, resV, cv, pack, aops_nil, aops_plain, kont_at, aop_move, aop_assign, aop_load, aop_binOp, aop_fieldAddr, aop_indexAddr, aop_len, evalE, getE, putE, getB, St.put, setsB, AV.ofV, AV.blk, SC.len, SC.get, List.length_nil, List.length_cons, Nat.reduceEqDiff, Nat.reduceAdd, ↓reduceIte, true_and, decide_eq_true_eq, decide_eq_false_iff_not, Option.isSome, List.nil_append, List.cons_append, aInt_add, aBin_add, aInt_and, aBin_and, aInt_lss, aBin_lss, aBin_shr, aShift_shr, aField_ptr, aIdx_sl, aLen_sl, aLoad_1b, aLoad_ep, aBinW_f, isW_tmp, isW_addc, isW_and, Int.reduceLT, aBinW_dF, List.getD_cons_zero, List.getD_cons_succ, Nat.reduceLT, Nat.zero_add, ty3, un3, sl24, ty24, un24, ty26, inR64, Int.toNat_natCast]
  simp only [IntKind.bits]
  refine ⟨fun hi => ?_, fun hi => ?_⟩
  · have hd := degF_bd (e := e) (n := i) (xs := xs) fun j hj => by have := hb.2 j (by omega); omega
    have hx := hb.2 i (by omega)
    have h2 := bit_bd (x := xs.getD i 0) (e := e) (by omega)
    exact ⟨by omega, by omega, by omega, by omega, klp_of (i + 1) (by simp [St.conv, St.bf, getE, putE, getB, cv, cvL, cvB, idx, still, pack, lifts, liftOne, liftC, liftK, killB, cellsOfB, setB]; rfl) (by omega) (by omega)⟩
  · have : i = xs.length := by omega
    rw [this]
def lend_spec_DegreeOf : List Nat := []
def sp_spec_DegreeOf : List AV → List Bx → (AV → List Bx → Prop) → Prop
  | [.agg [.int .i64 n, .sl none (.ints .i64 xs)], .int .i64 e], [], K => K (.int .i64 (degI n xs e)) []
  | _, _, _ => False
theorem at_spec_DegreeOf {n : Int} {xs : List Int} {e : Int} {K : AV → List Bx → Prop} : sp_spec_DegreeOf [.agg [.int .i64 n, .sl none (.ints .i64 xs)], .int .i64 e] [] K = (K (.int .i64 (degI n xs e)) []) := id rfl
theorem ok_spec_DegreeOf : ∀ args giv K, sp_spec_DegreeOf args giv K → ∃ r outs, ARuns Tryz.prog 35 args giv r outs ∧ K r outs := by
  intro args giv K hk
  unfold sp_spec_DegreeOf at hk
  split at hk
  · exact ⟨_, _, runs_spec_DegreeOf _ _ _ , hk⟩
  · exact hk.elim
end Go.Proofs.YtbookhehpebcmaaGreatDoor
