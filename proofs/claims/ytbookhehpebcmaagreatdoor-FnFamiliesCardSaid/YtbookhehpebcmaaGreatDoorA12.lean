/-
  An abstract machine over the kit's Code.wp, and its soundness: part 12, calls by contract.
-/
import Derived.Test.YtbookhehpebcmaaGreatDoorA11
namespace Go.Proofs.YtbookhehpebcmaaGreatDoor
namespace AM
set_option linter.unusedVariables false
set_option linter.unusedSimpArgs false

theorem idx_some {sel : List Nat} {b i : Nat} (h : idx sel b = some i) : sel[i]? = some b := by
  induction sel generalizing i with
  | nil => simp [idx] at h
  | cons x r ih =>
    simp only [idx] at h
    split at h
    · rename_i e; cases h; simp [e]
    · cases hr : idx r b with
      | none => rw [hr] at h; cases h
      | some j => rw [hr] at h; simp at h; subst h; simpa using ih hr

theorem idx_none {sel : List Nat} {b : Nat} (h : idx sel b = none) : b ∉ sel := by
  induction sel with
  | nil => simp
  | cons x r ih =>
    simp only [idx] at h
    split at h
    · cases h
    · rename_i e
      cases hr : idx r b with
      | none => simp only [List.mem_cons, not_or]; exact ⟨fun e' => e e'.symm, ih hr⟩
      | some j => rw [hr] at h; cases h

/-- The ghost that a callee sees: the lent blocks, renumbered. -/
def subGh (g : Gh) (sel : List Nat) : Gh where
  gh i n := match sel[i]? with | some b => g.gh b n | none => none
  bb i := match sel[i]? with | some b => g.bb b | none => none
  gi i k := match sel[i]? with | some b => g.gi b k | none => False
  one i n v h := by
    split at h
    · exact g.one _ _ _ h
    · cases h

section
variable {P : Program} {C : Cx} {sl : Nat → AV} {bx : Nat → Bx} {g : Gh} {a : Act} {w : World}

theorem plain_rel {w' : World} {M F M' F' : Nat → Prop} {g g' : Gh} {args args' : List Value} (K : Keeps w M F w' M' F') {x : AV} (hp : plainA x = true) {v : Value} (h : Rel w M F g args x v) : Rel w' M' F' g' args' x v := by
  cases x <;> simp only [plainA, Bool.false_eq_true] at hp <;> simp only [Rel] at h ⊢ <;> first | exact h | exact h.mono K

theorem plainL_rel {w' : World} {M F M' F' : Nat → Prop} {g g' : Gh} {args args' : List Value} (K : Keeps w M F w' M' F') : ∀ {xs : List AV} {us : List Value}, xs.all plainA = true → RelL w M F g args xs us → RelL w' M' F' g' args' xs us
  | [], us, _, h => by simp only [RelL] at h ⊢; exact h
  | x :: r, us, hp, h => by
    simp only [List.all_cons, Bool.and_eq_true] at hp
    simp only [RelL] at h ⊢
    obtain ⟨u, us', rfl, hx, hr⟩ := h
    exact ⟨u, us', rfl, plain_rel K hp.1 hx, plainL_rel K hp.2 hr⟩

theorem pv_rel {w' : World} {M F M' F' : Nat → Prop} {g g' : Gh} {args args' : List Value} (K : Keeps w M F w' M' F') {cs : List AV} {off : Nat} (hp : cs.all plainA = true) {v : Value} (h : Rel w M F g args (.pv cs off) v) : Rel w' M' F' g' args' (.pv cs off) v := by
  simp only [Rel] at h ⊢
  obtain ⟨k, us, rfl, h1, h2, h3, h4⟩ := h
  exact ⟨k, us, rfl, Nat.lt_of_lt_of_le h1 K.size, fun hm => h2 (K.mt _ h1 hm), fun i u hi => K.cell (ad := ⟨k, i, none⟩) h2 (h3 i u hi), plainL_rel K hp h4⟩

theorem plain1_rel {w' : World} {M F M' F' : Nat → Prop} {g g' : Gh} {args args' : List Value} (K : Keeps w M F w' M' F') {x : AV} (hp : plain1 x = true) {v : Value} (h : Rel w M F g args x v) : Rel w' M' F' g' args' x v := by
  unfold plain1 at hp
  split at hp
  · exact pv_rel K hp h
  · exact plain_rel K hp h

theorem plain1L_rel {w' : World} {M F M' F' : Nat → Prop} {g g' : Gh} {args args' : List Value} (K : Keeps w M F w' M' F') : ∀ {xs : List AV} {us : List Value}, xs.all plain1 = true → RelL w M F g args xs us → RelL w' M' F' g' args' xs us
  | [], us, _, h => by simp only [RelL] at h ⊢; exact h
  | x :: r, us, hp, h => by
    simp only [List.all_cons, Bool.and_eq_true] at hp
    simp only [RelL] at h ⊢
    obtain ⟨u, us', rfl, hx, hr⟩ := h
    exact ⟨u, us', rfl, plain1_rel K hp.1 hx, plain1L_rel K hp.2 hr⟩

theorem lend_rel (h : Gam C sl bx g a w) {bx' : Nat → Bx} (h' : Gam C sl bx' g a w) (hM : ∀ k, Mut g bx' k → Mut g bx k) (hk : ∀ b e c, bx b = .drow e c → bx' b = .drow e c) {x : AV} (hd : ∀ p ∈ dies bx x, bx' p.1 = p.2) {v : Value}
    (hx : Rel w (Mut g bx) C.F g C.args x v) {M' F' : Nat → Prop} (K : Keeps w (Mut g bx') C.F w M' F') {g' : Gh} {args' : List Value} : Rel w M' F' g' args' (lendA bx x) v := by
  have K0 : Keeps w (Mut g bx) C.F w (Mut g bx') C.F := ⟨Nat.le_refl _, fun _ _ _ => rfl, fun k _ hm => hM k hm, fun _ _ _ h => h⟩
  have K1 : Keeps w (Mut g bx) C.F w M' F' := ⟨Nat.le_refl _, fun _ _ _ => rfl, fun k hk hm => hM k (K.mt k hk hm), fun k hk hn hf => K.fr k hk (fun hm => hn (hM k hm)) hf⟩
  cases x
  case prm k c => simp only [Rel] at hx; simp only [lendA, Rel]; exact hx.1.mono K1
  case ref b n =>
    have := still_rel h h' hM hk hd hx
    simp only [lendA]
    simp only [still] at this ⊢
    split
    · rename_i e c hb
      rw [hb] at this
      simp only at this
      split
      · rename_i hl; rw [if_pos hl] at this; simp only [Rel] at this ⊢; exact this.mono K
      · simp only [Rel]
    · rename_i e c hb
      rw [hb] at this
      simp only at this
      split
      · rename_i hl; rw [if_pos hl] at this; simp only [Rel] at this ⊢; exact this.mono K
      · simp only [Rel]
    · simp only [Rel]
  case pv cs off =>
    simp only [lendA]; split
    · rename_i hp; exact pv_rel K1 hp hx
    · simp only [Rel]
  case clo f caps =>
    simp only [lendA]; split
    · rename_i hp
      simp only [Rel] at hx ⊢
      obtain ⟨us, rfl, hr⟩ := hx
      exact ⟨us, rfl, plain1L_rel K1 hp hr⟩
    · simp only [Rel]
  case undef => simp only [lendA, Rel]
  case skip => simp only [Rel] at hx; simp only [lendA, Rel]; exact hx
  case ptr => simp only [lendA, Rel]
  case rp => simp only [lendA, Rel]
  case ep => simp only [lendA, Rel]
  case agg => simp only [lendA, Rel]
  case tup => simp only [lendA, Rel]
  all_goals exact plain_rel K1 rfl hx

theorem lendL_rel (h : Gam C sl bx g a w) {bx' : Nat → Bx} (h' : Gam C sl bx' g a w) (hM : ∀ k, Mut g bx' k → Mut g bx k) (hk : ∀ b e c, bx b = .drow e c → bx' b = .drow e c)
    {M' F' : Nat → Prop} (K : Keeps w (Mut g bx') C.F w M' F') {g' : Gh} {args' : List Value} : ∀ {xs : List AV} {us : List Value}, (∀ p ∈ xs.flatMap (dies bx), bx' p.1 = p.2) → RelL w (Mut g bx) C.F g C.args xs us → RelL w M' F' g' args' (xs.map (lendA bx)) us
  | [], us, _, hx => by simp only [List.map_nil, RelL] at hx ⊢; exact hx
  | x :: r, us, hd, hx => by
    simp only [List.map_cons, RelL] at hx ⊢
    obtain ⟨u, us', rfl, hx, hr⟩ := hx
    exact ⟨u, us', rfl, lend_rel h h' hM hk (fun p hp => hd p (by simp [hp])) hx K, lendL_rel h h' hM hk K (fun p hp => hd p (by simp only [List.flatMap_cons, List.mem_append]; exact .inr hp)) hr⟩

/-- An argument, as the callee reads it. -/
theorem cont_in (h : Gam C sl bx g a w) {c0 d : SC} {b n : Nat} (hc : cont c0 bx (.ref b n) = some d) {v : Value} (hx : g.gh b n = some v) {M' F' : Nat → Prop} (hM : ∀ k, M' k → Mut g bx k) (hb : ∀ k, AliveB g bx b k → ¬ M' k)
    (hF : ∀ k, k < w.heap.size → ¬ Mut g bx k → C.F k → F' k) (hF2 : ∀ k, AliveB g bx b k → C.F k → F' k) : Vw w M' F' none v d := by
  have K : Keeps w (Mut g bx) C.F w M' F' := ⟨Nat.le_refl _, fun _ _ _ => rfl, fun k _ hm => hM k hm, hF⟩
  have hbx := h.bxs b
  simp only [cont] at hc
  split at hc
  · rename_i e c hbe
    split at hc
    · rename_i hl; cases hc; subst hl
      rw [hbe] at hbx
      obtain ⟨_, _, h3⟩ := hbx
      rcases h3 with ⟨h0, hn⟩ | ⟨k, cap, cur, hv, hh, a1, a2, a3, a4, a5⟩
      · rw [h0, hn] at hx; cases hx
        exact ⟨⟨none, 0, by rw [h0], by rw [h0]; exact Nat.le_refl _, Nat.zero_le _, fun i hi => by omega⟩, trivial⟩
      · rw [hv] at hx; cases hx
        have ha : AliveB g bx b k := by unfold AliveB; rw [hbe]; exact ⟨cap, hv⟩
        refine ⟨⟨_, cap, rfl, a2, a3, fun i hi => ?_⟩, trivial⟩
        obtain ⟨u, hu, he⟩ := a5 i hi
        refine ⟨u, ⟨⟨k, 0, none⟩, rfl, rfl, hb k ha, ?_⟩, he.mono K⟩
        rw [Nat.zero_add, cell_of_row w k i cur e (0, 0) hh]; exact hu
    · cases hc
  · rename_i e c hbe
    split at hc
    · rename_i hl; cases hc; subst hl
      rw [hbe] at hbx
      obtain ⟨_, _, v', hv, hw⟩ := hbx
      rw [hv] at hx; cases hx
      have := hw.mono K
      exact ⟨this.1, trivial⟩
    · cases hc
  · cases hc

mutual
theorem in_rel (h : Gam C sl bx g a w) {sel : List Nat} {M' F' : Nat → Prop} (hM : ∀ k, M' k → Mut g bx k) (hb : ∀ b k, b ∉ sel → AliveB g bx b k → ¬ M' k)
    (hF : ∀ k, k < w.heap.size → ¬ Mut g bx k → C.F k → F' k) : ∀ (x : AV) (v : Value) (c0 : SC), c0.len = 0 → Rel w (Mut g bx) C.F g C.args x v → Rel w M' F' (subGh g sel) [] (inA sel bx c0 x) v
  | .nil, v, c0, h0, hx => by
    simp only [Rel] at hx; subst hx; simp only [inA, Rel]
    exact ⟨⟨none, 0, by rw [h0], by rw [h0]; exact Nat.le_refl _, Nat.zero_le _, fun i hi => by omega⟩, trivial⟩
  | .sl fr c, v, c0, h0, hx => by
    have K : Keeps w (Mut g bx) C.F w M' F' := ⟨Nat.le_refl _, fun _ _ _ => rfl, fun k _ hm => hM k hm, hF⟩
    simp only [Rel] at hx; simp only [inA, Rel]; exact ⟨(hx.mono K).1, trivial⟩
  | .prm k c, v, c0, h0, hx => by
    have K : Keeps w (Mut g bx) C.F w M' F' := ⟨Nat.le_refl _, fun _ _ _ => rfl, fun k _ hm => hM k hm, hF⟩
    simp only [Rel] at hx; simp only [inA, Rel]; exact ⟨(hx.1.mono K).1, trivial⟩
  | .ref b n, v, c0, h0, hx => by
    simp only [Rel] at hx
    simp only [inA]
    split
    · rename_i i hi; simp only [Rel, subGh, idx_some hi]; exact hx
    · rename_i hi
      split
      · rename_i e t xss hbe
        split
        · rename_i hl; subst hl
          have hns := idx_none hi
          have hbx := h.bxs b
          rw [hbe] at hbx
          obtain ⟨_, _, _, v', hv, hw⟩ := hbx
          rw [hv] at hx; cases hx
          simp only [Rel]
          have hnm : ∀ k, g.gi b k → ¬ M' k := fun k hk => hb b k hns (by unfold AliveB; rw [hbe]; exact hk)
          rcases hw with ⟨h0', rfl⟩ | ⟨k, cap, cur, ks, rfl, hh, a1, a2, a3, a4, a5, a6, a7, a8⟩
          · exact ⟨⟨none, 0, by simp only [SC.len]; rw [h0'], by simp only [SC.len]; omega, Nat.zero_le _, fun i hi => by simp only [SC.len] at hi; omega⟩, trivial⟩
          · refine ⟨⟨_, cap, rfl, a2, a3, fun i hi => ?_⟩, trivial⟩
            obtain ⟨capi, curi, b1, b2, b3, b4, b5, b6, b7⟩ := a8 i hi
            refine ⟨_, ⟨⟨k, 0, none⟩, rfl, rfl, hnm k a4, by rw [Nat.zero_add, cell_of_row w k i cur e (0, 0) hh]; exact b1⟩, ?_⟩
            refine ⟨⟨_, capi, rfl, b4, b5, fun j hj => ⟨⟨ks.getD i 0, 0, none⟩, rfl, rfl, hnm _ b6, ?_⟩⟩, trivial⟩
            rw [Nat.zero_add, cell_of_row w _ j curi t (0, 0) b2]; exact b7 j hj
        · simp only [Rel]
      split
      · rename_i d hd
        simp only [Rel]
        have hns := idx_none hi
        -- a row that is not lent: its block is nobody's to write in the callee
        have hbx := h.bxs b
        have K : Keeps w (Mut g bx) C.F w M' F' := ⟨Nat.le_refl _, fun _ _ _ => rfl, fun k _ hm => hM k hm, hF⟩
        simp only [cont] at hd
        split at hd
        · rename_i e c hbe
          split at hd
          · rename_i hl; cases hd; subst hl
            rw [hbe] at hbx
            obtain ⟨_, _, h3⟩ := hbx
            rcases h3 with ⟨h0', hn⟩ | ⟨k, cap, cur, hv, hh, a1, a2, a3, a4, a5⟩
            · rw [h0', hn] at hx; cases hx
              exact ⟨⟨none, 0, by rw [h0'], by rw [h0']; exact Nat.le_refl _, Nat.zero_le _, fun i hi => by omega⟩, trivial⟩
            · rw [hv] at hx; cases hx
              have ha : AliveB g bx b k := by unfold AliveB; rw [hbe]; exact ⟨cap, hv⟩
              refine ⟨⟨_, cap, rfl, a2, a3, fun i hi => ?_⟩, trivial⟩
              obtain ⟨u, hu, he⟩ := a5 i hi
              refine ⟨u, ⟨⟨k, 0, none⟩, rfl, rfl, hb b k hns ha, ?_⟩, he.mono K⟩
              rw [Nat.zero_add, cell_of_row w k i cur e (0, 0) hh]; exact hu
          · cases hd
        · rename_i e c hbe
          split at hd
          · rename_i hl; cases hd; subst hl
            rw [hbe] at hbx
            obtain ⟨_, _, v', hv, hw⟩ := hbx
            rw [hv] at hx; cases hx
            exact ⟨(hw.mono K).1, trivial⟩
          · cases hd
        · cases hd
      · simp only [Rel]
  | .ptr b off, v, c0, h0, hx => by
    simp only [Rel] at hx
    simp only [inA]
    split
    · rename_i i hi
      obtain ⟨k, hk, rfl⟩ := hx
      simp only [Rel, subGh, idx_some hi]; exact ⟨k, hk, rfl⟩
    · rename_i hi
      have K : Keeps w (Mut g bx) C.F w M' F' := ⟨Nat.le_refl _, fun _ _ _ => rfl, fun k _ hm => hM k hm, hF⟩
      have hns := idx_none hi
      have hbx := h.bxs b
      obtain ⟨k, hk, rfl⟩ := hx
      split
      · rename_i cs hbe
        split
        · rename_i hp
          rw [hbe] at hbx
          obtain ⟨_, k', cur, e, hk', hh, hr⟩ := hbx
          rw [hk] at hk'; cases hk'
          simp only [Rel]
          refine ⟨k, cur.toList, rfl, lt_of_heap hh, hb b k hns (by unfold AliveB; rw [hbe]; exact hk), fun i u hu => ?_, plainL_rel K hp hr⟩
          rw [cell_of_row w k i cur e (0, 0) hh]; simpa using hu
        · simp only [Rel]
      · rename_i cs hbe
        split
        · rename_i hp
          rw [hbe] at hbx
          obtain ⟨_, k', us, hk', hl, hm, hr, hc⟩ := hbx
          rw [hk] at hk'; cases hk'
          simp only [Rel]
          exact ⟨k, us, rfl, hl, fun hm' => hm (hM k hm'), fun i u hu => hc i u hu, plainL_rel K hp hr⟩
        · simp only [Rel]
      · simp only [Rel]
  | .pv cs off, v, c0, h0, hx => by
    have K : Keeps w (Mut g bx) C.F w M' F' := ⟨Nat.le_refl _, fun _ _ _ => rfl, fun k _ hm => hM k hm, hF⟩
    simp only [inA]
    split
    · rename_i hp; exact pv_rel K hp hx
    · simp only [Rel]
  | .agg xs, v, c0, h0, hx => by
    simp only [Rel] at hx; simp only [inA, Rel]
    obtain ⟨us, rfl, hr⟩ := hx
    exact ⟨us, rfl, inL_rel h hM hb hF xs us hr⟩
  | .clo f caps, v, c0, h0, hx => by
    simp only [Rel] at hx; simp only [inA, Rel]
    obtain ⟨us, rfl, hr⟩ := hx
    exact ⟨us, rfl, inL_rel h hM hb hF caps us hr⟩
  | .int k n, v, c0, h0, hx => by simp only [Rel] at hx; simp only [inA, Rel]; exact hx
  | .bool b, v, c0, h0, hx => by simp only [Rel] at hx; simp only [inA, Rel]; exact hx
  | .tt, v, c0, h0, hx => by simp only [Rel] at hx; simp only [inA, Rel]; exact hx
  | .ff, v, c0, h0, hx => by simp only [Rel] at hx; simp only [inA, Rel]; exact hx
  | .str s, v, c0, h0, hx => by simp only [Rel] at hx; simp only [inA, Rel]; exact hx
  | .undef, v, c0, h0, hx => by simp only [inA, Rel]
  | .skip, v, c0, h0, hx => by simp only [inA, Rel]
  | .rp b n i, v, c0, h0, hx => by simp only [inA, Rel]
  | .ep x, v, c0, h0, hx => by simp only [inA, Rel]
  | .tup xs, v, c0, h0, hx => by simp only [inA, Rel]
theorem inL_rel (h : Gam C sl bx g a w) {sel : List Nat} {M' F' : Nat → Prop} (hM : ∀ k, M' k → Mut g bx k) (hb : ∀ b k, b ∉ sel → AliveB g bx b k → ¬ M' k)
    (hF : ∀ k, k < w.heap.size → ¬ Mut g bx k → C.F k → F' k) : ∀ (xs : List AV) (us : List Value), RelL w (Mut g bx) C.F g C.args xs us → RelL w M' F' (subGh g sel) [] (inL sel bx xs) us
  | [], us, hx => by simp only [inL, RelL] at hx ⊢; exact hx
  | x :: r, us, hx => by
    simp only [RelL] at hx
    obtain ⟨u, us', rfl, hx, hr⟩ := hx
    simp only [inL]
    exact RelL.cons (in_rel h hM hb hF x u _ rfl hx) (inL_rel h hM hb hF r us' hr)
end

theorem inArgs_rel (h : Gam C sl bx g a w) {sel : List Nat} {M' F' : Nat → Prop} (hM : ∀ k, M' k → Mut g bx k) (hb : ∀ b k, b ∉ sel → AliveB g bx b k → ¬ M' k)
    (hF : ∀ k, k < w.heap.size → ¬ Mut g bx k → C.F k → F' k) : ∀ (xs : List AV) (cs : List SC) (us : List Value), (∀ c ∈ cs, c.len = 0) → RelL w (Mut g bx) C.F g C.args xs us → RelL w M' F' (subGh g sel) [] (inArgs sel bx xs cs) us
  | [], cs, us, _, hx => by cases cs <;> simp only [inArgs, RelL] at hx ⊢ <;> exact hx
  | x :: r, [], us, hc, hx => by
    simp only [RelL] at hx
    obtain ⟨u, us', rfl, hx, hr⟩ := hx
    simp only [inArgs]
    exact RelL.cons (in_rel h hM hb hF x u _ rfl hx) (inArgs_rel h hM hb hF r [] us' hc hr)
  | x :: r, c0 :: cs, us, hc, hx => by
    simp only [RelL] at hx
    obtain ⟨u, us', rfl, hx, hr⟩ := hx
    simp only [inArgs]
    exact RelL.cons (in_rel h hM hb hF x u _ (hc c0 List.mem_cons_self) hx) (inArgs_rel h hM hb hF r cs us' (fun c hm => hc c (List.mem_cons_of_mem _ hm)) hr)
end

end AM
end Go.Proofs.YtbookhehpebcmaaGreatDoor
