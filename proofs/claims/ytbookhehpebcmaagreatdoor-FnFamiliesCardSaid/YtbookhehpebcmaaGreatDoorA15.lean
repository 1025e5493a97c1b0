/-
  An abstract machine over the kit's Code.wp, and its soundness: part 15, one operation, and regions.
-/
import Derived.Test.YtbookhehpebcmaaGreatDoorA14
namespace Go.Proofs.YtbookhehpebcmaaGreatDoor
namespace AM
set_option linter.unusedVariables false
set_option linter.unusedSimpArgs false

section
variable {P : Program} {C : Cx} {sl : Nat → AV} {bx : Nat → Bx} {g : Gh} {a : Act} {w : World} {K : Kt}

theorem make_val (h : Gam C sl bx g a w) {c : Nat} {t : TypeId} {x y : AV} (hK : aMake c (slTy P t) x y K) {vx vy : Value} (hx : Rel w (Mut g bx) C.F g C.args x vx) (hy : Rel w (Mut g bx) C.F g C.args y vy) :
    ValR P C sl bx g a w c K (Instr.makeSlice t vx vy) := by
  generalize hst : slTy P t = st at hK
  have run : ∀ {e : TypeId} {c0 : SC} {kl kc : IntKind} {l m : Int}, slTy P t = some (e, c0) → 0 ≤ l → l ≤ m → m ≤ 1099511627776 → ∃ (i : Nat) (z : Value), (Instr.makeSlice t (.int kl l) (.int kc m)).run P w = .ok (.slice (some ⟨w.heap.size, 0, none⟩) l.toNat m.toNat) (w.alloc (.cells (madeCells z.cells (m.toNat * i)) e)) ∧ i = 1 ∧ z.oneCell' = true ∧
      (∀ k xs, c0 = .ints k xs → z = .int k 0) := by
    intro e c0 kl kc l m hs h0 h1 h2
    obtain ⟨ht, hc0, i, z, hi, hsz, hby, hz, hz1, hzi⟩ := slTy_spec hs
    refine ⟨i.size, z, run_make w t e i z ht hi hz kl kc l m h0 h1 ?_ (by omega), hsz, hz1, hzi⟩
    have : (i.bytes : Int) * m ≤ 64 * 1099511627776 := by
      refine Int.le_trans (Int.mul_le_mul_of_nonneg_right (show (i.bytes : Int) ≤ 64 from by omega) (by omega)) ?_
      exact Int.mul_le_mul_of_nonneg_left h2 (by omega)
    omega
  unfold aMake at hK
  split at hK
  · rename_i e k xs _ l _ m
    obtain ⟨⟨h0, h1, h2⟩, hk⟩ := hK
    simp only [Rel] at hx hy; subst hx hy
    obtain ⟨i, z, hr, rfl, hz1, hzi⟩ := run (kl := _) (kc := _) hst h0 h1 h2
    obtain rfl := hzi _ _ rfl
    refine ⟨_, _, _, hk, fun hn => ?_⟩
    have hbc : bx c = .none := hn _ List.mem_cons_self (Nat.le_refl _)
    refine ⟨_, _, _, hr, Gam.newRow h hbc (.ints k (List.replicate l.toNat 0)) m.toNat _ e (by simp [SC.len]; omega) (by rw [size_madeCells]; omega) (by unfold maxLen; omega) (fun j hj => ?_), ?_⟩
    · simp only [SC.len, List.length_replicate] at hj
      refine ⟨.int k 0, ?_, ?_⟩
      · simp only [madeCells, Nat.mul_one]
        rw [Array.getElem?_map, Array.getElem?_range, if_pos (by omega)]
        simp [Value.cells, Nat.mod_one]
      · simp only [ElR]; simp [List.getD, hj]
    · simp only [Rel, Gh.setR, upd_same, SC.len, List.length_replicate]
  · rename_i e ss _ l _ m
    obtain ⟨⟨h0, h1, h2⟩, hk⟩ := hK
    subst h0
    simp only [Rel] at hx hy; subst hx hy
    obtain ⟨i, z, hr, rfl, hz1, _⟩ := run (kl := _) (kc := _) hst (Int.le_refl 0) h1 h2
    refine ⟨_, _, _, hk, fun hn => ?_⟩
    have hbc : bx c = .none := hn _ List.mem_cons_self (Nat.le_refl _)
    generalize hcur : madeCells z.cells (m.toNat * 1) = cur at hr
    have hsz : cur.size = m.toNat := by rw [← hcur, size_madeCells, Nat.mul_one]
    have hmm : m.toNat ≤ maxLen := by unfold maxLen; omega
    clear hcur
    have hG := Gam.newRow h hbc (.strs []) m.toNat cur e (Nat.zero_le _) (by omega) hmm (fun j hj => absurd hj (Nat.not_lt_zero _))
    refine ⟨_, _, _, hr, hG, ?_⟩
    simp only [Rel, Gh.setR, upd_same]
    rfl
  · rename_i e f rs _ l _ m
    obtain ⟨⟨h0, h1, h2⟩, hk⟩ := hK
    subst h0
    simp only [Rel] at hx hy; subst hx hy
    obtain ⟨i, z, hr, rfl, hz1, _⟩ := run (kl := _) (kc := _) hst (Int.le_refl 0) h1 h2
    refine ⟨_, _, _, hk, fun hn => ?_⟩
    have hbc : bx c = .none := hn _ List.mem_cons_self (Nat.le_refl _)
    generalize hcur : madeCells z.cells (m.toNat * 1) = cur at hr
    have hsz : cur.size = m.toNat := by rw [← hcur, size_madeCells, Nat.mul_one]
    have hmm : m.toNat ≤ maxLen := by unfold maxLen; omega
    clear hcur
    have hG := Gam.newRow h hbc (.rows f []) m.toNat cur e (Nat.zero_le _) (by omega) hmm (fun j hj => absurd hj (Nat.not_lt_zero _))
    refine ⟨_, _, _, hr, hG, ?_⟩
    simp only [Rel, Gh.setR, upd_same]
    rfl
  · exact hK.elim

/-- What an operation comes to. -/
def OpR (P : Program) (C : Cx) (sl : Nat → AV) (bx : Nat → Bx) (a : Act) (w : World) (c : Nat) (K : Kt) (o : Oper) : Prop :=
  ∃ v us ac, K v us ac ∧ ((∀ p ∈ us, c ≤ p.1 → bx p.1 = .none) → ∀ (next : Act → World → Prop) (Q : Exit → Act → World → Prop), (∀ a' w' g', Gam C (putS sl o.dst v) (updsF bx us) g' a' w' → next a' w') → o.wp P a w next Q)

theorem OpR.val (o : Oper) (hd : ∀ d, o.dst = some d → d < C.N) {c : Nat} {s : Sem Value} (hv : ValR P C sl bx g a w c K s) (he : (execOp a.eval o) = (do pure (.value (← s)) : Sem Next)) : OpR P C sl bx a w c K o := by
  obtain ⟨v, us, ac, hk, h⟩ := hv
  refine ⟨v, us, ac, hk, fun hn next Q hnext => ?_⟩
  obtain ⟨u, w', g', hr, hG, hrel⟩ := h hn
  unfold Oper.wp
  rw [he]
  simp only [Sem.run_bind, hr, Result.andThen_ok, Sem.run_pure]
  exact hnext _ _ g' (hG.put o.dst hd hrel)

theorem zip_parts (f : Operand → Value) (e : Operand → AV) : ∀ (l : List (Nat × Operand)), l.map (fun p => (p.1, f p.2)) = ((l.map fun p => (p.1, e p.2)).map (·.1)).zip (l.map fun p => f p.2)
  | [] => rfl
  | p :: r => by simp only [List.map_cons, List.zip_cons_cons, zip_parts f e r]

theorem RelL_eval (h : Gam C sl bx g a w) : ∀ (l : List Operand), RelL w (Mut g bx) C.F g C.args (l.map (evF sl)) (l.map a.eval)
  | [] => by simp only [List.map_nil, RelL]
  | x :: r => RelL.cons (ev_rel h x) (RelL_eval h r)

theorem op_sim {Γ : Gm} (hΓ : Γ.ok P) (h : Gam C sl bx g a w) (o : Oper) (hd : ∀ d, o.dst = some d → d < C.N) {c : Nat} (hK : aop P Γ c (evF sl) bx o.op K) : OpR P C sl bx a w c K o := by
  have mk : ∀ {op : Op}, o.op = op → aop P Γ c (evF sl) bx op K := fun e => e ▸ hK
  cases ho : o.op with
  | move x => exact .val o hd (g := g) (s := pure (a.eval x)) (.same h (mk ho) (ev_rel h x) rfl) (by simp only [execOp, ho, pure_bind])
  | assign x => exact .val o hd (g := g) (s := pure (a.eval x)) (.same h (mk ho) (ev_rel h x) rfl) (by simp only [execOp, ho, pure_bind])
  | pick x y z =>
    have hk : aPick (evF sl x) (evF sl y) (evF sl z) K := mk ho
    have hx := ev_rel h x
    have hb : ∃ b, (evF sl x).boolV = some b ∧ ((if b then K (evF sl y) [] [] else K (evF sl z) [] [])) := by
      unfold aPick at hk
      split at hk
      · rename_i b hb; refine ⟨b, by rw [hb]; rfl, ?_⟩; cases b; exact hk.2 rfl; exact hk.1 rfl
      · rename_i hb; exact ⟨true, by rw [hb]; rfl, hk⟩
      · rename_i hb; exact ⟨false, by rw [hb]; rfl, hk⟩
      · exact hk.elim
    obtain ⟨b, hb, hk⟩ := hb
    have hv := boolV_eq hb hx
    cases b
    · exact .val o hd (g := g) (s := pure (a.eval z)) (.same h hk (ev_rel h z) rfl) (by simp only [execOp, ho, hv, asBool, pure_bind]; rfl)
    · exact .val o hd (g := g) (s := pure (a.eval y)) (.same h hk (ev_rel h y) rfl) (by simp only [execOp, ho, hv, asBool, pure_bind]; rfl)
  | alloc t => exact .val o hd (alloc_val h (mk ho)) (by simp only [execOp, ho])
  | makeFunc fn first captured =>
    have hk : aFunc fn first.toList (captured.toList.map (evF sl)) K := mk ho
    unfold aFunc at hk
    split at hk
    · rename_i f hf
      have hf' : first = #[] := by cases first; simp_all
      subst hf'
      exact .val o hd (g := g) (s := pure (.func (.func f) #[] (captured.toList.map a.eval).toArray)) (.same h hk (by simp only [Rel]; exact ⟨_, rfl, RelL_eval h _⟩) rfl) (by simp only [execOp, ho, Instr.makeFunc]; simp [← Array.toList_map])
    · exact hk.elim
  | box t x => exact .val o hd (box_val h (t := t) (mk ho) (ev_rel h x)) (by simp only [execOp, ho])
  | build t ps =>
    refine .val o hd (build_val h (t := t) (parts := ps.map fun p => (p.1, a.eval p.2)) (vs := ps.toList.map fun p => a.eval p.2) (mk ho) (by simp) ?_ ?_) (by simp only [execOp, ho])
    · intro i p v hp hv
      rw [List.getElem?_map] at hp hv
      cases hq : ps.toList[i]? with
      | none => rw [hq] at hp; cases hp
      | some q => rw [hq] at hp hv; cases hp; cases hv; exact ev_rel h q.2
    · rw [Array.toList_map]; exact zip_parts _ _ _
  | buildSlice t n ps =>
    refine .val o hd (buildS_val h (t := t) (n := n) (parts := ps.map fun p => (p.1, a.eval p.2)) (vs := ps.toList.map fun p => a.eval p.2) (mk ho) (by simp) ?_ ?_) (by simp only [execOp, ho])
    · intro i p v hp hv
      rw [List.getElem?_map] at hp hv
      cases hq : ps.toList[i]? with
      | none => rw [hq] at hp; cases hp
      | some q => rw [hq] at hp hv; cases hp; cases hv; exact ev_rel h q.2
    · rw [Array.toList_map]; exact zip_parts _ _ _
  | load t x => exact .val o hd (load_val h (mk ho) (ev_rel h x)) (by simp only [execOp, ho])
  | store t x y =>
    obtain ⟨us, ac, hk, w', hr, hG⟩ := store_val h (c := c) (mk ho) (ev_rel h x) (ev_rel h y)
    refine ⟨.undef, us, ac, hk, fun _ next Q hnext => ?_⟩
    unfold Oper.wp
    simp only [execOp, ho, Sem.run_bind, hr, Result.andThen_ok, Sem.run_pure]
    exact hnext _ _ g (hG.put o.dst hd (by simp only [Rel]))
  | nilCheck x =>
    have hk : aNil (evF sl x) K := mk ho
    have hx := ev_rel h x
    generalize evF sl x = y at hk hx
    unfold aNil at hk
    split at hk
    · simp only [Rel] at hx; obtain ⟨k, hkk, hv⟩ := hx
      exact .val o hd (g := g) (s := pure (a.eval x)) (.same h hk (u := a.eval x) (by simp only [Rel]; exact ⟨k, hkk, hv⟩) rfl) (by simp only [execOp, ho, hv, pure_bind])
    · simp only [Rel] at hx; obtain ⟨k, us, hv, h1⟩ := hx
      exact .val o hd (g := g) (s := pure (a.eval x)) (.same h hk (u := a.eval x) (by simp only [Rel]; exact ⟨k, us, hv, h1⟩) rfl) (by simp only [execOp, ho, hv, pure_bind])
    · exact hk.elim
  | binOp op t x y u => exact .val o hd (.pure h (binW_sim _ op t _ _ (mk ho) x y (ev_rel h x) (ev_rel h y))) (by simp only [execOp, ho])
  | unOp op t x => exact .val o hd (.pure h (un_sim op _ (mk ho) (ev_rel h x))) (by simp only [execOp, ho])
  | convert t u x => exact .val o hd (convS_val h (mk ho) (ev_rel h x)) (by simp only [execOp, ho])
  | makeSlice t l m => exact .val o hd (make_val h (mk ho) (ev_rel h l) (ev_rel h m)) (by simp only [execOp, ho])
  | slice t x lo hi mx =>
    cases mx with
    | some m =>
      have hk := mk ho
      rw [aop_slice3] at hk
      refine .val o hd (slice3_val h (t := t) hk (ev_rel h x) (vlo := lo.map a.eval) (vhi := hi.map a.eval) (vmx := some (a.eval m)) ?_ ?_ ?_) (by simp only [execOp, ho, Option.map_some])
      · intro hy; cases lo <;> simp at hy ⊢
      · intro y hy; cases hi <;> simp only [Option.map_none, Option.map_some, reduceCtorEq, Option.some.injEq] at hy; subst hy; exact ⟨_, rfl, ev_rel h _⟩
      · intro y hy; cases hy; exact ⟨_, rfl, ev_rel h _⟩
    | none =>
    have hk := mk ho
    rw [aop_slice] at hk
    have fin : ∀ {s : Sem Value}, s = Instr.sliceAt t (a.eval x) (lo.map a.eval) (hi.map a.eval) none → ValR P C sl bx g a w c K s → OpR P C sl bx a w c K o := fun e hv => .val o hd hv (by subst e; simp only [execOp, ho, Option.map_none])
    rcases cut_val h (c := c) (t := t) (mx := none) hk (ev_rel h x) (vlo := lo.map a.eval) (vhi := hi.map a.eval) (vmx := none) (fun y hy => by cases lo <;> simp only [Option.map_none, Option.map_some, reduceCtorEq, Option.some.injEq] at hy; subst hy; exact ⟨_, rfl, ev_rel h _⟩)
      (fun hy => by cases lo <;> simp at hy ⊢) (fun y hy => by cases hi <;> simp only [Option.map_none, Option.map_some, reduceCtorEq, Option.some.injEq] at hy; subst hy; exact ⟨_, rfl, ev_rel h _⟩) (fun hy => by cases hi <;> simp at hy ⊢) (fun _ => rfl) rfl with hk | hv
    case inr => exact fin rfl hv
    refine .val o hd (slice_val h (t := t) hk (ev_rel h x) (vlo := lo.map a.eval) (vhi := hi.map a.eval) (vmx := none) ?_ ?_ ?_ ?_ ?_) (by simp only [execOp, ho, Option.map_none])
    · intro y hy; cases lo <;> simp only [Option.map_none, Option.map_some, reduceCtorEq, Option.some.injEq] at hy; subst hy; exact ⟨_, rfl, ev_rel h _⟩
    · intro hy; cases lo <;> simp at hy ⊢
    · intro y hy; cases hi <;> simp only [Option.map_none, Option.map_some, reduceCtorEq, Option.some.injEq] at hy; subst hy; exact ⟨_, rfl, ev_rel h _⟩
    · intro hy; cases hi <;> simp at hy ⊢
    · intro hy; rfl
  | index t x i => exact .val o hd (index_val h (mk ho) (ev_rel h x) (ev_rel h i)) (by simp only [execOp, ho])
  | fieldAddr t x f => exact .val o hd (field_val h (mk ho) (ev_rel h x)) (by simp only [execOp, ho])
  | indexAddr t x i => exact .val o hd (idx_val h (mk ho) (ev_rel h i) (ev_rel h x)) (by simp only [execOp, ho])
  | field t x f => exact .val o hd (fld_val h (mk ho) (ev_rel h x)) (by simp only [execOp, ho])
  | extract x i => exact .val o hd (extr_val h (mk ho) (ev_rel h x)) (by simp only [execOp, ho])
  | call c' =>
    have hk := mk ho
    obtain ⟨callee, ⟨asx⟩, ⟨ts⟩⟩ := c'
    cases callee with
    | builtin b =>
      cases b <;> try exact hk.elim
      case len =>
        simp only [aop] at hk
        split at hk
        · rename_i x t
          exact .val o hd (len_val h (t := t) (ty := o.type) hk (ev_rel h x)) (by simp only [execOp, ho, resolve, invoke, builtin, pure_bind, List.map_toArray, List.map_cons, List.map_nil])
        · exact hk.elim
      case append =>
        simp only [aop] at hk
        split at hk
        · rename_i x y
          exact .val o hd (append_val h (ts := ts.toArray) (ty := o.type) hk (ev_rel h x) (ev_rel h y)) (by simp only [execOp, ho, resolve, invoke, builtin, pure_bind, List.map_toArray, List.map_cons, List.map_nil])
        · exact hk.elim
      case max =>
        simp only [aop] at hk
        split at hk
        · rename_i x y
          exact .val o hd (max_val h (ts := ts.toArray) (ty := o.type) hk (ev_rel h x) (ev_rel h y)) (by simp only [execOp, ho, resolve, invoke, builtin, pure_bind, List.map_toArray, List.map_cons, List.map_nil])
        · exact hk.elim
      case min =>
        simp only [aop] at hk
        split at hk
        · rename_i x y
          exact .val o hd (min_val h (ts := ts.toArray) (ty := o.type) hk (ev_rel h x) (ev_rel h y)) (by simp only [execOp, ho, resolve, invoke, builtin, pure_bind, List.map_toArray, List.map_cons, List.map_nil])
        · exact hk.elim
    | invoke r m => exact hk.elim
    | value f =>
      have hk' : acallX P c bx (evF sl f) (asx.map (evF sl)) (ts.map fun t => SC0 (slTy P t)) K := acallX_of hΓ hk
      obtain ⟨v, us, ac, hkk, hcall⟩ := call_sim h hk' (ev_rel h f) (RelL_eval h asx)
      refine ⟨v, us, ac, hkk, fun hn next Q hnext => ?_⟩
      obtain ⟨gid, hcb, caps, hvf, hC⟩ := hcall hn
      unfold Oper.wp
      unfold callable at hcb
      split at hcb
      · rename_i fn hfn
        simp only [Bool.and_eq_true, bne_iff_ne, ne_eq] at hcb
        have hb : fn.body.isNone = false := by cases hbb : fn.body <;> simp_all
        have hrun : (execOp a.eval o).run P w = .ok (.enter gid (asx.map a.eval ++ caps).toArray) w := by
          simp only [execOp, ho, resolve, hvf, Deferred.ofValue, pure_bind, invoke, callFunc, Sem.run_bind, run_program, Result.andThen_ok, hfn]
          have e1 : (fn.name == "runtime.NumGoroutine") = false := by simpa using hcb.1
          simp only [e1, hb, Bool.false_eq_true, if_false, Sem.run_pure, List.map_toArray, List.append_toArray, List.nil_append]
        rw [hrun]
        simp only [Oper.upon]
        refine hC.mono ?_
        rintro e w' ⟨u, g', rfl, hG, hrel⟩
        exact hnext _ _ g' (hG.put o.dst hd hrel)
      · cases hcb
  | _ => exact (mk ho).elim
end

end AM
end Go.Proofs.YtbookhehpebcmaaGreatDoor
