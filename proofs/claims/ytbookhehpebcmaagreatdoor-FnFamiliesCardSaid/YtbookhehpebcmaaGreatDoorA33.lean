/-
  An abstract machine over the kit's Code.wp, and its soundness: part 33, rows of own rows.
-/
import Derived.Test.YtbookhehpebcmaaGreatDoorA32
namespace Go.Proofs.YtbookhehpebcmaaGreatDoor
namespace AM
set_option linter.unusedVariables false
set_option linter.unusedSimpArgs false

theorem exists_nats {p : Nat → Nat → Prop} : ∀ (n : Nat), (∀ i, i < n → ∃ k, p i k) → ∃ ks : List Nat, ks.length = n ∧ ∀ i, i < n → p i (ks.getD i 0)
  | 0, _ => ⟨[], rfl, fun i hi => absurd hi (Nat.not_lt_zero _)⟩
  | n + 1, h => by
    obtain ⟨ks, hl, hk⟩ := exists_nats n fun i hi => h i (by omega)
    obtain ⟨k, hp⟩ := h n (by omega)
    refine ⟨ks ++ [k], by simp [hl], fun i hi => ?_⟩
    by_cases e : i < n
    · have : (ks ++ [k]).getD i 0 = ks.getD i 0 := by rw [List.getD_eq_getElem?_getD, List.getD_eq_getElem?_getD, List.getElem?_append_left (by omega)]
      rw [this]; exact hk i e
    · have ei : i = n := by omega
      subst ei
      have : (ks ++ [k]).getD i 0 = k := by rw [List.getD_eq_getElem?_getD, List.getElem?_append_right (by omega), hl, Nat.sub_self]; rfl
      rw [this]; exact hp

/-- Rows that begin with different numbers lie apart: the callee's own rows of rows are the caller's to write. -/
theorem ARuns_grid {P : Program} {f : FuncId} {args : List AV} {n : Nat} {b0 : Bool} {e t : TypeId} {xss : List (List Int)} (h : ARuns P f args [] (.tup [.ref 0 n, .bool b0]) [.row e (.rows (some t) xss)]) (ha : calmL args = true)
    (hne : ∀ i, i < xss.length → 0 < (xss.getD i []).length) (hd : ∀ i j, i < xss.length → j < xss.length → (xss.getD i []).getD 0 0 = (xss.getD j []).getD 0 0 → i = j) :
    ARuns P f args [] (.tup [.ref 0 n, .bool b0]) [.grid e t xss] := by
  refine ⟨h.1, fun w vals F0 g hF hB hx hr hglo => ?_⟩
  refine (h.2 w vals (fun _ => False) g (fun k hk => hk.elim) (fun b => by
    have := hB b
    cases b <;> exact this) hx (calmL_rel _ _ ha hr) hglo).mono fun ex w' hq => ?_
  obtain ⟨v, g', e1, hfr, hle, hb, hxx, hal, hrel⟩ := hq
  have hn : ∀ b, g.bb b = none ∧ ∀ n, g.gh b n = none := fun b => by
    have := hB b
    cases b <;> exact this
  have hnM : ∀ k, ¬ Mut g (getB []) k := fun k ⟨b, hb⟩ => by cases b <;> exact hb
  have h0 := hb 0
  simp only [getB] at h0
  obtain ⟨z1, z2, z3⟩ := h0
  have hlen : (SC.rows (some t) xss).len = xss.length := rfl
  rw [hlen] at z2 z3
  -- the ghost with the blocks of the grid
  have fin : ∀ A : Nat → Prop, (∀ k, A k → k < w'.heap.size ∧ w.heap.size ≤ k) → (∃ v, g'.gh 0 xss.length = some v ∧ GridR w' A e t xss v) →
      ∃ v' g2, ex = .returned v' ∧ Frame0 w w' (Mut g (getB [])) ∧ Gh.le g g2 ∧
        (∀ b, BxR w' (Mut g2 (getB [.grid e t xss])) (fun k => F0 k ∨ w.heap.size ≤ k) g2 (vals ++ cellsAt w g 0 []) b (getB [.grid e t xss] b)) ∧
        (∀ b b' k, AliveB g2 (getB [.grid e t xss]) b k → AliveB g2 (getB [.grid e t xss]) b' k → b = b') ∧
        (∀ b k, AliveB g2 (getB [.grid e t xss]) b k → Mut g (getB []) k ∨ w.heap.size ≤ k) ∧
        Rel w' (Mut g2 (getB [.grid e t xss])) (fun k => F0 k ∨ w.heap.size ≤ k) g2 (vals ++ cellsAt w g 0 []) (.tup [.ref 0 n, .bool b0]) v' := by
    intro A hA hG
    let g2 : Gh := { g' with gi := fun b k => b = 0 ∧ A k }
    have ez : g2.gi 0 = A := by funext k; simp [g2]
    refine ⟨v, g2, e1, hfr, hle, fun b => ?_, fun b b' k h h' => ?_, fun b k h => ?_, ?_⟩
    · cases b with
      | zero =>
        obtain ⟨v0, hv0, hG⟩ := hG
        refine ⟨z1, z2, fun k hk => ?_, v0, hv0, by rw [ez]; exact hG⟩
        rw [ez] at hk
        exact ⟨(hA k hk).1, .inr (hA k hk).2⟩
      | succ b => have := hb (b + 1); simp only [getB] at this ⊢; exact this
    · have k1 : b = 0 := by cases b with
        | zero => rfl
        | succ b => exact absurd h (by simp [AliveB, getB, AliveX])
      have k2 : b' = 0 := by cases b' with
        | zero => rfl
        | succ b => exact absurd h' (by simp [AliveB, getB, AliveX])
      rw [k1, k2]
    · cases b with
      | zero => exact .inr (hA k h.2).2
      | succ b => exact absurd h (by simp [AliveB, getB, AliveX])
    · simp only [Rel, RelL] at hrel ⊢
      exact hrel
  rcases z3 with ⟨y0, y1⟩ | ⟨k0, cap, cur, hv, hh, a1, a2, a3, a4, a5⟩
  · exact fin (fun _ => False) (fun k hk => hk.elim) ⟨_, by rw [y0]; exact y1, .inl ⟨y0, rfl⟩⟩
  have hk0 : w.heap.size ≤ k0 := a4.resolve_left id
  -- the inner rows' blocks
  have hin : ∀ i, i < xss.length → ∃ ki, ∃ capi curi, cur[i]? = some (.slice (some ⟨ki, 0, none⟩) (xss.getD i []).length capi) ∧ w'.heap[ki]? = some (.cells curi t (0, 0)) ∧ capi ≤ curi.size ∧ (xss.getD i []).length ≤ capi ∧ capi ≤ maxLen ∧
      (w.heap.size ≤ ki ∧ ki ≠ k0) ∧ ∀ j, j < (xss.getD i []).length → curi[j]? = some (.int .i64 ((xss.getD i []).getD j 0)) := fun i hi => by
    obtain ⟨u, hu, he⟩ := a5 i hi
    simp only [ElR] at he
    obtain ⟨⟨a, capi, rfl, b1, b2, b3⟩, hs⟩ := he
    rcases hs with hs | ⟨ki, n', c0, curi, hv', hh', hc', hf', hm'⟩
    · have := hne i hi
      simp only [Value.slice.injEq] at hs
      omega
    · simp only [Value.slice.injEq] at hv'
      obtain ⟨rfl, rfl, rfl⟩ := hv'
      refine ⟨ki, capi, curi, hu, hh', hc', b1, b2, ⟨hf'.resolve_left id, fun e => hm' (e ▸ ⟨0, cap, hv⟩)⟩, fun j hj => ?_⟩
      obtain ⟨ad, had, _, _, hcl⟩ := b3 j hj
      cases had
      rw [World.cell?, hh'] at hcl
      simpa using hcl
  obtain ⟨ks, hkl, hks⟩ := exists_nats xss.length hin
  refine fin (fun k => k = k0 ∨ k ∈ ks) (fun k hk => ?_) ⟨_, hv, .inr ⟨k0, cap, cur, ks, rfl, hh, a1, a2, a3, .inl rfl, hkl, ?_, ?_, fun i hi => ?_⟩⟩
  · rcases hk with rfl | hk
    · exact ⟨lt_of_heap hh, hk0⟩
    · obtain ⟨i, hi, rfl⟩ := List.mem_iff_getElem.1 hk
      obtain ⟨capi, curi, b1, b2, b3, b4, b5, b6, b7⟩ := hks i (by omega)
      have eg : ks.getD i 0 = ks[i] := by rw [List.getD_eq_getElem?_getD, List.getElem?_eq_getElem hi]; rfl
      rw [eg] at b2 b6
      exact ⟨lt_of_heap b2, b6.1⟩
  · rw [List.Nodup, List.pairwise_iff_getElem]
    intro i j hi hj hij heq
    obtain ⟨capi, curi, b1, b2, b3, b4, b5, b6, b7⟩ := hks i (by omega)
    obtain ⟨capj, curj, c1, c2, c3, c4, c5, c6, c7⟩ := hks j (by omega)
    have e1 : ks.getD i 0 = ks[i] := by rw [List.getD_eq_getElem?_getD, List.getElem?_eq_getElem hi]; rfl
    have e2 : ks.getD j 0 = ks[j] := by rw [List.getD_eq_getElem?_getD, List.getElem?_eq_getElem hj]; rfl
    rw [e1, heq] at b2
    rw [e2] at c2
    rw [b2] at c2
    simp only [Option.some.injEq, Obj.cells.injEq, and_true] at c2
    obtain rfl := c2
    have hi0 := b7 0 (hne i (by omega))
    have hj0 := c7 0 (hne j (by omega))
    rw [hi0] at hj0
    simp only [Option.some.injEq, Value.int.injEq, true_and] at hj0
    have := hd i j (by omega) (by omega) hj0
    omega
  · intro hm
    obtain ⟨i, hi, he⟩ := List.mem_iff_getElem.1 hm
    obtain ⟨capi, curi, b1, b2, b3, b4, b5, b6, b7⟩ := hks i (by omega)
    have eg : ks.getD i 0 = ks[i] := by rw [List.getD_eq_getElem?_getD, List.getElem?_eq_getElem hi]; rfl
    exact b6.2 (eg.trans he)
  · obtain ⟨capi, curi, b1, b2, b3, b4, b5, b6, b7⟩ := hks i hi
    refine ⟨capi, curi, b1, b2, b3, b4, b5, .inr ?_, b7⟩
    have eg : ks.getD i 0 = ks[i]'(by omega) := by rw [List.getD_eq_getElem?_getD, List.getElem?_eq_getElem (by omega)]; rfl
    rw [eg]; exact List.getElem_mem _


section
variable {P : Program} {C : Cx} {sl : Nat → AV} {bx : Nat → Bx} {g : Gh} {a : Act} {w : World}

/-- One inner row is handed to a function that writes in it. -/
theorem grid_call (h : Gam C sl bx g a w) {b : Nat} {e t : TypeId} {xss : List (List Int)} (hb : bx b = .grid e t xss) {i : Nat} (hi : i < xss.length) :
    ∃ k0 cap, g.gh b xss.length = some (.slice (some ⟨k0, 0, none⟩) xss.length cap) ∧ ∃ u, w.cell? ⟨k0, i, none⟩ = some u ∧
      ∀ (f : FuncId) (k k2 : Int) (ys : List Int), ys.length = (xss.getD i []).length →
        ARuns P f [.ref 0 (xss.getD i []).length, .int .i64 k] [.row t (.ints .i64 (xss.getD i []))] (.int .i64 k2) [.row t (.ints .i64 ys)] →
        Calls P f #[u, .int .i64 k] w fun e' w' => e' = .returned (.int .i64 k2) ∧ Gam C sl (upd bx b (.grid e t (xss.set i ys))) g a w' := by
  have hbx := h.bxs b
  rw [hb] at hbx
  obtain ⟨z1, z2, z3, v, hv, hG⟩ := hbx
  rcases hG with ⟨y0, _⟩ | ⟨k0, cap, cur, ks, rfl, hh, a1, a2, a3, a4, a5, a6, a7, a8⟩
  · omega
  obtain ⟨capi, curi, b1, b2, b3, b4, b5, b6, b7⟩ := a8 i hi
  have hks : ∀ j, j < ks.length → ks.getD j 0 ∈ ks := fun j hj => by
    have eg : ks.getD j 0 = ks[j] := by rw [List.getD_eq_getElem?_getD, List.getElem?_eq_getElem hj]; rfl
    rw [eg]; exact List.getElem_mem _
  have hne : ks.getD i 0 ≠ k0 := fun e1 => a7 (e1 ▸ hks i (by omega))
  have hinj : ∀ j, j < xss.length → ks.getD j 0 = ks.getD i 0 → j = i := fun j hj e1 => by
    have e2 : ks.getD j 0 = ks[j]'(by omega) := by rw [List.getD_eq_getElem?_getD, List.getElem?_eq_getElem (by omega)]; rfl
    have e3 : ks.getD i 0 = ks[i]'(by omega) := by rw [List.getD_eq_getElem?_getD, List.getElem?_eq_getElem (by omega)]; rfl
    rw [e2, e3] at e1
    have hp := List.pairwise_iff_getElem.1 a6
    rcases Nat.lt_trichotomy j i with hlt | heq | hgt
    · exact absurd e1 (hp j i (by omega) (by omega) hlt)
    · exact heq
    · exact absurd e1.symm (hp i j (by omega) (by omega) hgt)
  refine ⟨k0, cap, hv, _, by rw [cell_of_row w k0 i cur e (0, 0) hh]; exact b1, fun f k k2 ys hlen hA => ?_⟩
  generalize hki : ks.getD i 0 = ki at *
  generalize hxi : xss.getD i [] = xs at *
  have hmut : ∀ k, Mut (oneGh xs.length (some ⟨ki, 0, none⟩) capi) (getB [.row t (.ints .i64 xs)]) k → k = ki := by
    rintro k ⟨b, hb⟩
    cases b with
    | succ b => simp [AliveB, getB, AliveX] at hb
    | zero =>
      obtain ⟨c0, hc0⟩ := hb
      have hc0 : (oneGh xs.length (some ⟨ki, 0, none⟩) capi).gh 0 xs.length = some (.slice (some ⟨k, 0, none⟩) xs.length c0) := hc0
      simp only [oneGh, and_self, ↓reduceIte, Option.some.injEq, Value.slice.injEq, true_and, Addr.mk.injEq, and_true] at hc0
      exact hc0.1.symm
  have hcallA := hA.2 w [.slice (some ⟨ki, 0, none⟩) xs.length capi, .int .i64 k] (fun k => C.F k ∧ k < w.heap.size) (oneGh xs.length (some ⟨ki, 0, none⟩) capi) (fun k hk => hk.2) (fun b => by
      cases b with
      | succ b => exact ⟨rfl, fun n => by simp [oneGh]⟩
      | zero =>
        refine ⟨rfl, fun n hn => ?_, .inr ⟨ki, capi, curi, by simp [oneGh, SC.len], b2, b3, b4, b5, ⟨(z3 ki b6).2, (z3 ki b6).1⟩, fun j hj => ⟨_, b7 j hj, rfl⟩⟩⟩
        have hn : xs.length < n := hn
        have : ¬ n = xs.length := by omega
        simp [oneGh, this])
    (fun b b' k h1 h2 => by
      have k1 : b = 0 := by cases b with
        | zero => rfl
        | succ b => exact absurd h1 (by simp [AliveB, getB, AliveX])
      have k2 : b' = 0 := by cases b' with
        | zero => rfl
        | succ b => exact absurd h2 (by simp [AliveB, getB, AliveX])
      rw [k1, k2])
    (RelL.cons (by simp [Rel, oneGh]) (RelL.cons (by simp [Rel]) (by simp [RelL])))
    (h.glo.mono fun k hk => ⟨b, by unfold AliveB; rw [hb, hmut k hk]; exact b6⟩)
  refine hcallA.mono ?_
  rintro e' w' ⟨v, g', rfl, hfr, hle, hbo, hxx, hal, hrel⟩
  simp only [Rel] at hrel
  subst hrel
  refine ⟨rfl, ?_⟩
  have hfr' : ∀ k, k < w.heap.size → k ≠ ki → w'.heap[k]? = w.heap[k]? := fun k hk hn => hfr.frame k hk fun hm => hn (hmut k hm)
  have hg0 := hle.2 0 xs.length _ (show (oneGh xs.length (some ⟨ki, 0, none⟩) capi).gh 0 xs.length = some (.slice (some ⟨ki, 0, none⟩) xs.length capi) by simp [oneGh])
  have h0 := hbo 0
  simp only [getB] at h0
  obtain ⟨_, _, h3⟩ := h0
  have hyl : (SC.ints .i64 ys).len = ys.length := rfl
  have hset : ∀ j, (xss.set i ys).getD j [] = if j = i then ys else xss.getD j [] := fun j => by
    by_cases e1 : j = i
    · subst e1; rw [if_pos rfl, List.getD_eq_getElem?_getD, List.getElem?_set_self (by omega)]; rfl
    · rw [if_neg e1, List.getD_eq_getElem?_getD, List.getD_eq_getElem?_getD, List.getElem?_set_ne (Ne.symm e1)]
  have key : ∃ cur', w'.heap[ki]? = some (.cells cur' t (0, 0)) ∧ capi ≤ cur'.size ∧ ∀ j, j < ys.length → cur'[j]? = some (.int .i64 (ys.getD j 0)) := by
    rcases h3 with ⟨y0, y1⟩ | ⟨k', cap', cur', c1, c2, c3, c4, c5, c6, c7⟩
    · rw [hyl] at y0
      rw [← hlen, y0, y1] at hg0
      simp at hg0
    · have c1 : g'.gh 0 ys.length = some (.slice (some ⟨k', 0, none⟩) ys.length cap') := c1
      rw [hlen, hg0] at c1
      simp only [Option.some.injEq, Value.slice.injEq, Addr.mk.injEq, and_true, true_and] at c1
      obtain ⟨rfl, rfl⟩ := c1
      refine ⟨cur', c2, c3, fun j hj => ?_⟩
      obtain ⟨u, hu, he⟩ := c7 j hj
      simp only [ElR] at he
      rw [hu, he]
  obtain ⟨cur', d1, d2, d3⟩ := key
  have hk0 := lt_of_heap hh
  refine h.one b _ g.le_refl (fun _ _ => ⟨rfl, fun _ => rfl⟩) (fun k hk hn => hfr' k hk fun e1 => hn (by unfold AliveB; rw [hb]; rw [e1]; exact b6)) hfr.os hfr.tape hfr.output hfr.size ?_ (fun k hk => .inl (by unfold AliveB; rw [hb]; exact hk))
  have hl2 : (xss.set i ys).length = xss.length := List.length_set
  refine ⟨z1, fun n hn => z2 n (by omega), fun k hk => ⟨Nat.lt_of_lt_of_le (z3 k hk).1 hfr.size, (z3 k hk).2⟩, _, by rw [hl2]; exact hv, .inr ⟨k0, cap, cur, ks, by rw [hl2], (hfr' k0 hk0 (Ne.symm hne)).trans hh, a1, by omega, a3, a4, by omega, a6, a7, fun j hj => ?_⟩⟩
  rw [hl2] at hj
  rw [hset]
  by_cases e1 : j = i
  · subst e1
    rw [if_pos rfl, hki]
    exact ⟨capi, cur', by rw [hlen]; exact b1, d1, d2, by omega, b5, b6, d3⟩
  · rw [if_neg e1]
    obtain ⟨cj, uj, f1, f2, f3, f4, f5, f6, f7⟩ := a8 j hj
    have hnj : ks.getD j 0 ≠ ki := fun e2 => e1 (hinj j hj e2)
    exact ⟨cj, uj, f1, (hfr' _ (lt_of_heap f2) hnj).trans f2, f3, f4, f5, f6, f7⟩

theorem tmp_eval {d : Nat} : a.eval (.tmp d) = a.tmps.getD d undef := rfl

theorem put_ne {a : Act} {d d' : Nat} {v : Value} (h : d ≠ d') : (a.put (some d') v).tmps.getD d undef = a.tmps.getD d undef := by
  simp only [Act.put, Array.getD_eq_getD_getElem?]
  rw [Array.getElem?_setIfInBounds_ne (by omega)]
theorem put_eq {a : Act} {d : Nat} {v : Value} (h : d < a.tmps.size) : (a.put (some d) v).tmps.getD d undef = v := by
  simp [Act.put, Array.getD, h]

/-- 'k = f(a[i], k)' for an own row of own rows a. -/
theorem mark_ops {Γ : Gm} (hΓ : Γ.ok P) {Q : Exit → Act → World → Prop} {all : Array Oper} {e t tt te : TypeId} {f : FuncId} {z : AV} {xss : List (List Int)} {i : Nat} {k k2 : Int} {ys : List Int} {p1 p2 p3 p4 p5 p6 p7 : String} {f1 f2 f3 f4 f5 f6 f7 : Array Edge} {t1 t2 t3 t4 t5 t6 t7 : TypeId} {at0 : Array TypeId}
    (hn : 18 ≤ C.N) (hst : (slTy P tt).isSome = true) (hty : tyOf P te = .one z) (h : Gam C sl bx g a w) (s0 : sl 0 = .ref 0 xss.length) (s5 : sl 5 = .int .i64 i) (s1 : sl 1 = .int .i64 k) (hb : bx 0 = .grid e t xss) (hi : i < xss.length)
    (hcall : callable P f = true) (hlen : ys.length = (xss.getD i []).length)
    (hA : ARuns P f [.ref 0 (xss.getD i []).length, .int .i64 k] [.row t (.ints .i64 (xss.getD i []))] (.int .i64 k2) [.row t (.ints .i64 ys)])
    (hQ : ∀ a' w' sl', Gam C sl' (upd bx 0 (.grid e t (xss.set i ys))) g a' w' → sl' 0 = .ref 0 xss.length → sl' 5 = .int .i64 i → sl' 1 = .int .i64 k2 → Q .normal a' w') :
    wpList P all Q [⟨some 12, .move (.tmp 0), t1, p1, f1, none⟩, ⟨some 13, .move (.tmp 5), t2, p2, f2, none⟩, ⟨some 14, .indexAddr tt (.tmp 12) (.tmp 13), t3, p3, f3, none⟩, ⟨some 15, .load te (.tmp 14), t4, p4, f4, none⟩,
      ⟨some 16, .move (.tmp 1), t5, p5, f5, none⟩, ⟨some 17, .call { callee := .value (.func f), args := #[.tmp 15, .tmp 16], argTypes := at0 }, t6, p6, f6, none⟩, ⟨some 1, .assign (.tmp 17), t7, p7, f7, none⟩] a w := by
  obtain ⟨k0, cap, hv, u, hu, hC⟩ := grid_call (P := P) h hb hi
  have hsz := h.slots
  have r0 := h.sls 0
  have r5 := h.sls 5
  have r1 := h.sls 1
  rw [s0] at r0; rw [s5] at r5; rw [s1] at r1
  simp only [Rel] at r0 r5 r1
  rw [hv] at r0
  simp only [Option.some.injEq] at r0
  obtain ⟨⟨el, c0⟩, hst⟩ := Option.isSome_iff_exists.1 hst
  obtain ⟨ht, _, ti, z', hti, hts, _⟩ := slTy_spec hst
  -- move a, move i
  refine wpList_plain rfl fun K1 hK1 => ?_
  simp only [Oper.wp, execOp, pure_bind, Sem.run_pure, Oper.upon]
  refine hK1 _ _ ?_
  have g1 := h.put (some 12) (x := .undef) (v := a.eval (.tmp 0)) (fun i hi => by cases hi; omega) (by simp only [Rel])
  refine wpList_plain rfl fun K2 hK2 => ?_
  simp only [Oper.wp, execOp, pure_bind, Sem.run_pure, Oper.upon]
  refine hK2 _ _ ?_
  have g2 := g1.put (some 13) (x := .undef) (v := (a.put (some 12) (a.eval (.tmp 0))).eval (.tmp 5)) (fun i hi => by cases hi; omega) (by simp only [Rel])
  generalize ha1 : a.put (some 12) (a.eval (.tmp 0)) = a1 at *
  have q12 : a1.tmps.getD 12 undef = .slice (some ⟨k0, 0, none⟩) xss.length cap := by rw [← ha1, put_eq (by omega), tmp_eval]; exact r0.symm
  have q5 : a1.tmps.getD 5 undef = .int .i64 i := by rw [← ha1, put_ne (by omega)]; exact r5
  have q1 : a1.tmps.getD 1 undef = .int .i64 k := by rw [← ha1, put_ne (by omega)]; exact r1
  have hs1 := g1.slots
  generalize ha2 : a1.put (some 13) (a1.eval (.tmp 5)) = a2 at *
  have w12 : a2.tmps.getD 12 undef = .slice (some ⟨k0, 0, none⟩) xss.length cap := by rw [← ha2, put_ne (by omega)]; exact q12
  have w13 : a2.tmps.getD 13 undef = .int .i64 i := by rw [← ha2, put_eq (by omega), tmp_eval]; exact q5
  have w1 : a2.tmps.getD 1 undef = .int .i64 k := by rw [← ha2, put_ne (by omega)]; exact q1
  have hs2 := g2.slots
  -- the place
  refine wpList_plain rfl fun K3 hK3 => ?_
  have hix := run_indexAt (w := w) ht hti hts .i64 (i : Int) k0 0 xss.length cap (by omega) (by omega)
  simp only [Oper.wp, execOp, tmp_eval, w12, w13, Sem.run_bind, hix, Result.andThen_ok, Sem.run_pure, Oper.upon]
  refine hK3 _ _ ?_
  have g3 := g2.put (some 14) (x := .undef) (v := .pointer (some ⟨k0, 0 + (i : Int).toNat, none⟩)) (fun i hi => by cases hi; omega) (by simp only [Rel])
  generalize ha3 : a2.put (some 14) (.pointer (some ⟨k0, 0 + (i : Int).toNat, none⟩)) = a3 at *
  have x14 : a3.tmps.getD 14 undef = .pointer (some ⟨k0, i, none⟩) := by rw [← ha3, put_eq (by omega)]; simp
  have x1 : a3.tmps.getD 1 undef = .int .i64 k := by rw [← ha3, put_ne (by omega)]; exact w1
  have hs3 := g3.slots
  -- the row
  refine wpList_plain rfl fun K4 hK4 => ?_
  have hld := run_load_one (w := w) hty hu
  simp only [Oper.wp, execOp, tmp_eval, x14, Sem.run_bind, hld, Result.andThen_ok, Sem.run_pure, Oper.upon]
  refine hK4 _ _ ?_
  have g4 := g3.put (some 15) (x := .undef) (v := u) (fun i hi => by cases hi; omega) (by simp only [Rel])
  generalize ha4 : a3.put (some 15) u = a4 at *
  have y15 : a4.tmps.getD 15 undef = u := by rw [← ha4, put_eq (by omega)]
  have y1 : a4.tmps.getD 1 undef = .int .i64 k := by rw [← ha4, put_ne (by omega)]; exact x1
  have hs4 := g4.slots
  -- move k
  refine wpList_plain rfl fun K5 hK5 => ?_
  simp only [Oper.wp, execOp, pure_bind, Sem.run_pure, Oper.upon]
  refine hK5 _ _ ?_
  have g5 := g4.put (some 16) (x := .undef) (v := a4.eval (.tmp 1)) (fun i hi => by cases hi; omega) (by simp only [Rel])
  generalize ha5 : a4.put (some 16) (a4.eval (.tmp 1)) = a5 at *
  have v15 : a5.tmps.getD 15 undef = u := by rw [← ha5, put_ne (by omega)]; exact y15
  have v16 : a5.tmps.getD 16 undef = .int .i64 k := by rw [← ha5, put_eq (by omega), tmp_eval]; exact y1
  have hs5 := g5.slots
  -- the call
  refine wpList_plain rfl fun K6 hK6 => ?_
  obtain ⟨k0', cap', hv', u', hu', hC'⟩ := grid_call (P := P) g5 hb hi
  rw [hv] at hv'
  simp only [Option.some.injEq, Value.slice.injEq, Addr.mk.injEq, and_true, true_and] at hv'
  obtain ⟨rfl, rfl⟩ := hv'
  rw [hu] at hu'
  simp only [Option.some.injEq] at hu'
  subst hu'
  have hcalls := hC' f k k2 ys hlen hA
  unfold callable at hcall
  split at hcall
  case h_2 => cases hcall
  rename_i fn hfn
  simp only [Bool.and_eq_true, bne_iff_ne, ne_eq] at hcall
  have hbd : fn.body.isNone = false := by cases hbb : fn.body <;> simp_all
  have e1 : (fn.name == "runtime.NumGoroutine") = false := by simpa using hcall.1
  have hef : a5.eval (.func f) = .func (.func f) #[] #[] := rfl
  have hrun : (execOp a5.eval ⟨some 17, .call { callee := .value (.func f), args := #[.tmp 15, .tmp 16], argTypes := at0 }, t6, p6, f6, none⟩).run P w = .ok (.enter f #[u, .int .i64 k]) w := by
    simp only [execOp, resolve, hef, Deferred.ofValue, pure_bind, invoke, callFunc, Sem.run_bind, run_program, Result.andThen_ok, hfn, e1, hbd, Bool.false_eq_true, if_false, Sem.run_pure, List.map_toArray, List.map_cons, List.map_nil, tmp_eval, v15, v16]
    rfl
  unfold Oper.wp
  rw [hrun]
  simp only [Oper.upon]
  refine hcalls.mono ?_
  rintro e' w' ⟨rfl, hG⟩
  simp only
  refine hK6 _ _ ?_
  have g6 := hG.put (some 17) (x := .int .i64 k2) (v := .int .i64 k2) (fun i hi => by cases hi; omega) (by simp only [Rel])
  generalize ha6 : a5.put (some 17) (.int .i64 k2) = a6 at *
  have n17 : a6.tmps.getD 17 undef = .int .i64 k2 := by rw [← ha6, put_eq (by omega)]
  -- assign k
  refine wpList_plain rfl fun K7 hK7 => ?_
  simp only [Oper.wp, execOp, pure_bind, Sem.run_pure, Oper.upon]
  refine hK7 _ _ (wpList_nil ?_)
  rw [tmp_eval, n17]
  have g7 := g6.put (some 1) (x := .int .i64 k2) (v := .int .i64 k2) (fun i hi => by cases hi; omega) (by simp only [Rel])
  refine hQ _ _ _ g7 ?_ ?_ ?_
  · simp only [putS]; rw [upd_other _ _ (by omega), upd_other _ _ (by omega), upd_other _ _ (by omega), upd_other _ _ (by omega), upd_other _ _ (by omega), upd_other _ _ (by omega), upd_other _ _ (by omega)]; exact s0
  · simp only [putS]; rw [upd_other _ _ (by omega), upd_other _ _ (by omega), upd_other _ _ (by omega), upd_other _ _ (by omega), upd_other _ _ (by omega), upd_other _ _ (by omega), upd_other _ _ (by omega)]; exact s5
  · simp only [putS, upd_same]
end

theorem Gam.forget {C : Cx} {sl sl' : Nat → AV} {bx bx' : Nat → Bx} {g : Gh} {a : Act} {w : World} (h : Gam C sl bx g a w) (hs : ∀ t, sl' t = sl t ∨ sl' t = .undef) (hb : bx' = bx) : Gam C sl' bx' g a w := by
  subst hb
  refine ⟨h.fr, h.slots, h.defers, h.fresh, fun t => ?_, h.bxs, h.excl, h.own, h.gle⟩
  rcases hs t with e | e
  · rw [e]; exact h.sls t
  · rw [e]; simp only [Rel]

/-- A piece of code run by the machine, within a walk by hand. -/
theorem wp_bc {P : Program} {Γ : Gm} (hΓ : Γ.ok P) (hm : P.follows .mixedOrders = true) {C : Cx} {c : Code} (hc : codeOk C.N c = true) {m : Nat} (hCm : C.m = m) {Q : Exit → Act → World → Prop} (R : St → Prop) (X : List (Nat × (St → Prop))) (K : St → Prop) {s : St}
    (h : bc P Γ m R c X K s) (hK : ∀ s a w, Holds C s a w → K s → Q .normal a w) (hR : ∀ s a w, Holds C s a w → R s → Q .ret a w) (hX : ∀ n s a w, Holds C s a w → lkX X n s → Q (.exit n) a w) {a : Act} {w : World} (hs : Holds C s a w) : c.wp P Q a w :=
  bc_sound hΓ hm c hc X K Q hK hR hX s (hCm ▸ h) a w hs

end AM
end Go.Proofs.YtbookhehpebcmaaGreatDoor
