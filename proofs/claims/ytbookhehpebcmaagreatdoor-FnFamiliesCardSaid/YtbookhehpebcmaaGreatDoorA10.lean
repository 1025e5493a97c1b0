/-
  An abstract machine over the kit's Code.wp, and its soundness: part 10, slice literals, slices of slices, indexes, fields.
-/
import Derived.Test.YtbookhehpebcmaaGreatDoorA9
import Derived.Great.BuildSlice
namespace Go.Proofs.YtbookhehpebcmaaGreatDoor
namespace AM
set_option linter.unusedVariables false
set_option linter.unusedSimpArgs false

theorem updsF_append (bx : Nat → Bx) (L L' : List (Nat × Bx)) : updsF bx (L ++ L') = updsF (updsF bx L) L' := by
  induction L generalizing bx with
  | nil => rfl
  | cons p L ih => obtain ⟨b, x⟩ := p; simp only [List.cons_append, updsF]; exact ih _

section
variable {P : Program} {C : Cx} {sl : Nat → AV} {bx : Nat → Bx} {g : Gh} {a : Act} {w : World} {K : Kt}

theorem Shapes.meet1 {M F : Nat → Prop} {f g : Option TypeId} {v : Value} (h : Shapes w M F v f) : Shapes w M F v (meet f g) := by
  cases f <;> cases g <;> simp only [meet, Shapes] at *
  rename_i e1 e2
  by_cases e : e1 = e2
  · subst e; simp only [if_true]; exact h
  · simp only [if_neg e]

theorem Shapes.meet2 {M F : Nat → Prop} {f g : Option TypeId} {v : Value} (h : Shapes w M F v g) : Shapes w M F v (meet f g) := by
  cases f <;> cases g <;> simp only [meet, Shapes] at *
  rename_i e1 e2
  by_cases e : e1 = e2
  · subst e; simp only [if_true]; exact h
  · simp only [if_neg e]

theorem Vw.toI {M F : Nat → Prop} {fr : Option TypeId} {v : Value} {xs : List Int} (h : Vw w M F fr v (.ints .i64 xs)) : VwI w M F fr v xs := by
  obtain ⟨⟨a, cap, hv, h1, h2, h3⟩, hs⟩ := h
  refine ⟨⟨a, cap, hv, h1, h2, fun i hi => ?_⟩, hs⟩
  obtain ⟨u, hc, he⟩ := h3 i hi
  simp only [ElR] at he; subst he; exact hc

theorem snoc_el {c c' : SC} {x : AV} (h : c.snoc x = some c') {M F : Nat → Prop} {args : List Value} {u : Value} (hr : Rel w M F g args x u) :
    c'.len = c.len + 1 ∧ (∀ i v, i < c.len → ElR w M F c i v → ElR w M F c' i v) ∧ ElR w M F c' c.len u := by
  unfold SC.snoc at h
  split at h
  · split at h
    · rename_i e; subst e; cases h
      simp only [Rel] at hr; subst hr
      refine ⟨by simp [SC.len], fun i v hi he => ?_, ?_⟩ <;> simp only [ElR, SC.len] at *
      · rw [he]; simp [List.getD, List.getElem?_append_left hi]
      · simp [List.getD]
    · cases h
  · cases h
    simp only [Rel] at hr
    refine ⟨by simp [SC.len], fun i v hi he => ?_, ?_⟩ <;> simp only [ElR, SC.len] at *
    · rw [show ∀ (l m : List (List Int)), i < l.length → (l ++ m).getD i [] = l.getD i [] from fun l m h => by simp [List.getD, List.getElem?_append_left h]]
      · exact ⟨he.1, he.2.meet1⟩
      · exact hi
    · simp only [List.getD, List.getElem?_append_right (Nat.le_refl _), Nat.sub_self]
      exact ⟨hr.toI.1, hr.toI.2.meet2⟩
  · cases h
    simp only [Rel] at hr
    refine ⟨by simp [SC.len], fun i v hi he => ?_, ?_⟩ <;> simp only [ElR, SC.len] at *
    · rw [show ∀ (l m : List (List Int)), i < l.length → (l ++ m).getD i [] = l.getD i [] from fun l m h => by simp [List.getD, List.getElem?_append_left h]]
      · exact ⟨he.1, trivial⟩
      · exact hi
    · simp only [List.getD, List.getElem?_append_right (Nat.le_refl _), Nat.sub_self]
      exact ⟨hr.1.toI.1, trivial⟩
  · cases h
    simp only [Rel] at hr; subst hr
    rename_i f xss
    refine ⟨by simp [SC.len], fun i v hi he => ?_, ?_⟩ <;> simp only [ElR, SC.len] at *
    · rw [show ∀ (l m : List (List Int)), i < l.length → (l ++ m).getD i [] = l.getD i [] from fun l m h => by simp [List.getD, List.getElem?_append_left h]]
      · exact he
      · exact hi
    · simp only [List.getD, List.getElem?_append_right (Nat.le_refl _), Nat.sub_self]
      refine ⟨⟨none, 0, rfl, Nat.le_refl _, Nat.zero_le _, fun i hi => by simp at hi⟩, ?_⟩
      cases f with
      | none => trivial
      | some e => exact .inl rfl
  · cases h
    simp only [Rel] at hr; subst hr
    refine ⟨by simp [SC.len], fun i v hi he => ?_, ?_⟩ <;> simp only [ElR, SC.len] at *
    · rw [he]; simp [List.getD, List.getElem?_append_left hi]
    · simp [List.getD]
  · cases h

theorem snocs_el {M F : Nat → Prop} {args : List Value} : ∀ (xs : List AV) (vs : List Value) (c c1 : SC), snocs c xs = some c1 → RelL w M F g args xs vs →
    c1.len = c.len + xs.length ∧ (∀ i v, i < c.len → ElR w M F c i v → ElR w M F c1 i v) ∧ ∀ j u, vs[j]? = some u → ElR w M F c1 (c.len + j) u
  | [], vs, c, c1, h, hr => by
    simp only [snocs, Option.some.injEq] at h; subst h
    simp only [RelL] at hr; subst hr
    exact ⟨rfl, fun _ _ _ h => h, by simp⟩
  | x :: r, vs, c, c1, h, hr => by
    simp only [RelL] at hr
    obtain ⟨u, us, rfl, hx, hr⟩ := hr
    simp only [snocs] at h
    split at h
    · rename_i c' hc'
      obtain ⟨l1, k1, n1⟩ := snoc_el hc' hx
      obtain ⟨l2, k2, n2⟩ := snocs_el r us c' c1 h hr
      refine ⟨by simp only [List.length_cons]; omega, fun i v hi he => k2 i v (by omega) (k1 i v hi he), fun j v hj => ?_⟩
      cases j with
      | zero => simp at hj; subst hj; exact k2 _ _ (by omega) n1
      | succ j =>
        have := n2 j v (by simpa using hj)
        rwa [show c'.len + j = c.len + (j + 1) from by omega] at this
    · cases h

/-- What dies by an operand. -/
theorem dies_spec {x : AV} {p : Nat × Bx} (h : p ∈ dies bx x) : ∃ e c, p.2 = .drow e c ∧ bx p.1 = .row e c := by
  unfold dies at h
  split at h
  · split at h
    · rename_i hb; simp only [List.mem_singleton] at h; subst h; exact ⟨_, _, rfl, hb⟩
    · simp at h
  · simp at h

/-- An operand that has become a lasting view. -/
theorem still_rel (h : Gam C sl bx g a w) {bx' : Nat → Bx} (h' : Gam C sl bx' g a w) (hM : ∀ k, Mut g bx' k → Mut g bx k) (hk : ∀ b e c, bx b = .drow e c → bx' b = .drow e c) {x : AV} (hd : ∀ p ∈ dies bx x, bx' p.1 = p.2) {v : Value}
    (hx : Rel w (Mut g bx) C.F g C.args x v) : Rel w (Mut g bx') C.F g C.args (still bx x) v := by
  have hK : Keeps w (Mut g bx) C.F w (Mut g bx') C.F := ⟨Nat.le_refl _, fun _ _ _ => rfl, fun k _ hm => hM k hm, fun _ _ _ h => h⟩
  by_cases hr : ∃ b n, x = .ref b n
  · obtain ⟨b, n, rfl⟩ := hr
    simp only [Rel] at hx
    simp only [still]
    have hbx := h'.bxs b
    split
    · rename_i e c hb
      have hd' := hd (b, .drow e c) (by simp only [dies, hb, List.mem_singleton])
      simp only at hd'
      rw [hd'] at hbx
      obtain ⟨_, _, v', hv, hw⟩ := hbx
      split
      · rename_i hl; subst hl; rw [hv] at hx; cases hx; simp only [Rel]; exact hw
      · simp only [Rel]
    · rename_i e c hb
      rw [hk b e c hb] at hbx
      obtain ⟨_, _, v', hv, hw⟩ := hbx
      split
      · rename_i hl; subst hl; rw [hv] at hx; cases hx; simp only [Rel]; exact hw
      · simp only [Rel]
    · simp only [Rel]
  · have e : still bx x = x := by
      unfold still
      split
      · exact absurd ⟨_, _, rfl⟩ hr
      · rfl
    rw [e]; exact hx.mono hK g.le_refl _ _

theorem foldl_get (vs : List Value) : ∀ (k : Nat) (cs : Array Value), (∀ j v, vs[j]? = some v → k + j < cs.size) →
    (((List.range' k vs.length).zip vs).foldl (fun cs (p : Nat × Value) => cs.setIfInBounds p.1 p.2) cs).size = cs.size ∧
    (∀ j, j < k → (((List.range' k vs.length).zip vs).foldl (fun cs (p : Nat × Value) => cs.setIfInBounds p.1 p.2) cs)[j]? = cs[j]?) ∧
    ∀ j v, vs[j]? = some v → (((List.range' k vs.length).zip vs).foldl (fun cs (p : Nat × Value) => cs.setIfInBounds p.1 p.2) cs)[k + j]? = some v := by
  induction vs with
  | nil => intro k cs _; simp
  | cons v vs ih =>
    intro k cs h
    simp only [List.length_cons, List.range'_succ, List.zip_cons_cons, List.foldl_cons]
    obtain ⟨a1, a2, a3⟩ := ih (k + 1) (cs.setIfInBounds k v) (fun j u hj => by have := h (j + 1) u (by simpa using hj); simp; omega)
    refine ⟨by rw [a1]; simp, fun j hj => ?_, fun j u hj => ?_⟩
    · rw [a2 j (by omega), Array.getElem?_setIfInBounds_ne (by omega)]
    · cases j with
      | zero =>
        simp at hj; subst hj
        have hlt := h 0 v rfl
        refine Eq.trans (a2 k (by omega)) ?_
        simp [Array.getElem?_setIfInBounds]; omega
      | succ j =>
        have := a3 j u (by simpa using hj)
        rwa [show k + 1 + j = k + (j + 1) from by omega] at this

theorem buildS_val (h : Gam C sl bx g a w) {c : Nat} {t n : Nat} {ps : List (Nat × AV)} (hK : aBuildL c bx n ps (slTy P t) K) {vs : List Value} (hl : vs.length = ps.length)
    (hr : ∀ (i : Nat) (p : Nat × AV) (v : Value), ps[i]? = some p → vs[i]? = some v → Rel w (Mut g bx) C.F g C.args p.2 v) {parts : Array (Nat × Value)} (hparts : parts.toList = (ps.map (·.1)).zip vs) :
    ValR P C sl bx g a w c K (Instr.buildSlice t n parts) := by
  generalize hst : slTy P t = st at hK
  unfold aBuildL at hK
  split at hK
  case h_2 => exact hK.elim
  rename_i p
  obtain ⟨e, c0⟩ := p
  obtain ⟨ht, h0, i, z, hi, hs, hby, hz, hz1, _⟩ := slTy_spec hst
  simp only at hK
  generalize hsn : snocs c0 (ps.map fun p => still bx p.2) = oc at hK
  unfold aBuildS at hK
  split at hK
  case h_2 => exact hK.elim
  rename_i c1
  obtain ⟨⟨hix, hnle⟩, hk⟩ := hK
  have hnl : ps.length = n := by have := congrArg List.length hix; simpa using this
  -- the rows that die
  have hL : ∀ p ∈ (ps.flatMap fun p => dies bx p.2), ∃ e c, p.2 = .drow e c ∧ (bx p.1 = .row e c ∨ bx p.1 = .drow e c) := fun p hp => by
    obtain ⟨q, hq, hp⟩ := List.mem_flatMap.1 hp
    obtain ⟨e, c, h1, h2⟩ := dies_spec hp
    exact ⟨e, c, h1, .inl h2⟩
  obtain ⟨hG, hM, hin, hout⟩ := Gam.kills _ bx hL h
  have hkeep : ∀ b e c, bx b = .drow e c → updsF bx (ps.flatMap fun p => dies bx p.2) b = .drow e c := fun b e c hb => by
    rw [hout b (fun p hp e1 => ?_)]
    · exact hb
    · obtain ⟨q, hq, hp⟩ := List.mem_flatMap.1 hp
      obtain ⟨e', c', h1, h2⟩ := dies_spec hp
      rw [e1, hb] at h2; cases h2
  have hrl : RelL w (Mut g (updsF bx (ps.flatMap fun p => dies bx p.2))) C.F g C.args (ps.map fun p => still bx p.2) vs := by
    have key : ∀ (l : List (Nat × AV)) (us : List Value), us.length = l.length → (∀ p ∈ l, p ∈ ps) → (∀ (i : Nat) (p : Nat × AV) (v : Value), l[i]? = some p → us[i]? = some v → Rel w (Mut g bx) C.F g C.args p.2 v) →
        RelL w (Mut g (updsF bx (ps.flatMap fun p => dies bx p.2))) C.F g C.args (l.map fun p => still bx p.2) us := by
      intro l
      induction l with
      | nil => intro us hl _ _; simp at hl; subst hl; simp only [List.map_nil, RelL]
      | cons p r ih =>
        intro us hl hmem hrel
        cases us with
        | nil => simp at hl
        | cons u us =>
          refine RelL.cons (still_rel h hG hM hkeep (fun q hq => hin q (List.mem_flatMap.2 ⟨p, hmem p List.mem_cons_self, hq⟩)) (hrel 0 p u rfl rfl)) (ih us (by simpa using hl) (fun q hq => hmem q (List.mem_cons_of_mem _ hq)) (fun i q v hq hv => hrel (i + 1) q v (by simpa using hq) (by simpa using hv)))
    exact key ps vs hl (fun _ h => h) hr
  obtain ⟨l1, k1, n1⟩ := snocs_el _ _ _ _ hsn hrl
  refine ⟨_, _, _, hk, fun hn => ?_⟩
  have hbc : updsF bx (ps.flatMap fun p => dies bx p.2) c = .none := by
    have hc : bx c = .none := hn (c, .row e c1) (by simp) (Nat.le_refl _)
    rw [hout c (fun p hp e1 => ?_)]
    · exact hc
    · obtain ⟨q, hq, hp⟩ := List.mem_flatMap.1 hp
      obtain ⟨e', c', h1, h2⟩ := dies_spec hp
      rw [e1, hc] at h2; cases h2
  have hzc : z.cells.size = 1 := by rw [oneCell_cells hz1]; rfl
  have hparts' : parts.toList = (List.range' 0 vs.length).zip vs := by rw [hparts, hix, List.range_eq_range', hl, hnl]
  have hone : ∀ p ∈ parts.toList, p.1 < n ∧ p.2.oneCell' = true := fun p hp => by
    rw [hparts'] at hp
    obtain ⟨j, hj⟩ := List.mem_iff_getElem?.1 hp
    obtain ⟨h1, h2⟩ := List.getElem?_zip_eq_some.1 hj
    have hjl := (List.getElem?_eq_some_iff.1 h2).1
    rw [List.getElem?_range' hjl] at h1
    simp at h1
    refine ⟨by omega, ?_⟩
    have := n1 j p.2 h2
    exact this.oneCell
  have hlen : c1.len = n := by rw [l1, h0]; simp [hnl]
  have cellsOf : ∀ (base : Array Value), base.size = n → Instr.fill (fun j => some (j * 1, 1)) base parts.toList = some (((List.range' 0 vs.length).zip vs).foldl (fun cs (p : Nat × Value) => cs.setIfInBounds p.1 p.2) base) := fun base hb => by
    rw [fill_one (fun j => some (j * 1, 1)) (fun j => .inr (by simp)) _ _ (fun p hp => ⟨by rw [hb]; exact (hone p hp).1, (hone p hp).2, by simp⟩), hparts']
  have fin : ∀ (base : Array Value), base.size = n → ∃ cur : Array Value, Instr.fill (fun j => some (j * 1, 1)) base parts.toList = some cur ∧ cur.size = n ∧ ∀ i, i < n → ∃ u, cur[i]? = some u ∧ ElR w (Mut g (updsF bx (ps.flatMap fun p => dies bx p.2))) C.F c1 i u := fun base hb => by
    obtain ⟨f1, _, f3⟩ := foldl_get vs 0 base (fun j v hj => by have := (List.getElem?_eq_some_iff.1 hj).1; omega)
    refine ⟨_, cellsOf base hb, by rw [f1, hb], fun j hj => ?_⟩
    have hu : vs[j]? = some _ := List.getElem?_eq_getElem (by omega)
    have := n1 j _ hu
    rw [h0, Nat.zero_add] at this
    exact ⟨_, by have := f3 j _ hu; rwa [Nat.zero_add] at this, this⟩
  have done : ∀ cur : Array Value, cur.size = n → (∀ i, i < n → ∃ u, cur[i]? = some u ∧ ElR w (Mut g (updsF bx (ps.flatMap fun p => dies bx p.2))) C.F c1 i u) → (Instr.buildSlice t n parts).run P w = .ok (.slice (some ⟨w.heap.size, 0, none⟩) n n) (w.alloc (.cells cur e)) →
      ∃ u w' g', (Instr.buildSlice t n parts).run P w = .ok u w' ∧ Gam C sl (updsF bx ((ps.flatMap fun p => dies bx p.2) ++ [(c, .row e c1)])) g' a w' ∧ Rel w' (Mut g' (updsF bx ((ps.flatMap fun p => dies bx p.2) ++ [(c, .row e c1)]))) C.F g' C.args (.ref c n) u := fun cur hcs hce hrun => by
    rw [updsF_append]
    refine ⟨_, _, _, hrun, Gam.newRow hG hbc c1 n cur e (by omega) (by omega) (by unfold maxLen; omega) (fun i hi => hce i (by omega)), ?_⟩
    simp only [Rel, Gh.setR, upd_same, hlen]
  by_cases hz0 : n = 0
  · subst hz0
    obtain ⟨cur, hf, hcs, hce⟩ := fin #[] rfl
    refine done cur hcs hce ?_
    have hpe : parts.toList = [] := by rw [hparts', hl, hnl]; rfl
    rw [hpe] at hf
    simp only [Instr.fill, Option.some.injEq] at hf; subst hf
    simp [Instr.buildSlice, run_underlying ht, sizeOf, typeInfo, hi, hs, hpe, Instr.fill, newRow, Array.range_zero']
  · obtain ⟨cur, hf, hcs, hce⟩ := fin ((Array.range (n * i.size)).map (z.cells[· % z.cells.size]!)) (by simp [hs])
    refine done cur hcs hce ?_
    exact run_buildSlice w t e n parts cur i z ht hi hz (by rw [hs]; omega) (by rw [hs]; omega) (by rw [hs] at *; exact hf)
end

end AM
end Go.Proofs.YtbookhehpebcmaaGreatDoor
