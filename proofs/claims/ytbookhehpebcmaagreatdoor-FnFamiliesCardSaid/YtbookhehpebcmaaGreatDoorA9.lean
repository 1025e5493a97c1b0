/-
  An abstract machine over the kit's Code.wp, and its soundness: part 9, the other operations but the calls.
-/
import Derived.Test.YtbookhehpebcmaaGreatDoorA8
namespace Go.Proofs.YtbookhehpebcmaaGreatDoor
namespace AM
set_option linter.unusedVariables false
set_option linter.unusedSimpArgs false

section
variable {P : Program} {C : Cx} {sl : Nat → AV} {bx : Nat → Bx} {g : Gh} {a : Act} {w : World} {K : Kt}

theorem oneCell_cells {v : Value} (h : v.oneCell' = true) : v.cells = #[v] := by cases v <;> first | rfl | cases h

theorem one_rel {M F : Nat → Prop} {args : List Value} {x : AV} {v : Value} (h : x.one = true) (hr : Rel w M F g args x v) : v.oneCell' = true := by
  cases x <;> simp only [AV.one, Bool.false_eq_true] at h <;> simp only [Rel] at hr
  case int => subst hr; rfl
  case bool => subst hr; rfl
  case tt => subst hr; rfl
  case ff => subst hr; rfl
  case str => subst hr; rfl
  case nil => subst hr; rfl
  case sl => obtain ⟨⟨_, _, rfl, _⟩, _⟩ := hr; rfl
  case prm => obtain ⟨⟨⟨_, _, rfl, _⟩, _⟩, _⟩ := hr; rfl
  case ref b n => obtain ⟨_, _, rfl⟩ := g.one _ _ _ hr; rfl
  case ptr => obtain ⟨_, _, rfl⟩ := hr; rfl
  case rp => obtain ⟨_, _, _, _, _, rfl⟩ := hr; rfl
  case ep => obtain ⟨_, _, rfl, _⟩ := hr; rfl
  case pv => obtain ⟨_, _, rfl, _⟩ := hr; rfl
  case clo => obtain ⟨_, rfl, _⟩ := hr; rfl

theorem cells_rel {M F : Nat → Prop} {args : List Value} {x : AV} {cs : List AV} {v : Value} (h : x.cells = some cs) (hr : Rel w M F g args x v) : ∃ us : List Value, v.cells = us.toArray ∧ RelL w M F g args cs us := by
  cases x
  case agg xs => simp only [AV.cells, Option.some.injEq] at h; subst h; simp only [Rel] at hr; obtain ⟨us, rfl, hu⟩ := hr; exact ⟨us, rfl, hu⟩
  case tup => simp only [AV.cells, reduceCtorEq] at h
  case undef => simp only [AV.cells, reduceCtorEq] at h
  case skip => simp only [AV.cells, reduceCtorEq] at h
  all_goals
    simp only [AV.cells, Option.some.injEq] at h; subst h
    exact ⟨[v], oneCell_cells (one_rel rfl hr), RelL.cons hr (by simp only [RelL])⟩

/-- A new variable. -/
theorem newVar_val (h : Gam C sl bx g a w) {c : Nat} {cs : List AV} {ac : List Nat} (hk : K (.ptr c 0) [(c, .box cs)] ac) {v : Value} {us : List Value} (hv : v.cells = us.toArray) (hr : RelL w (Mut g bx) C.F g C.args cs us)
    {t : TypeId} {s : Sem Value} (hs : s.run P w = (do pure (.pointer (some (← newVar t v))) : Sem Value).run P w) : ValR P C sl bx g a w c K s := by
  refine ⟨_, _, _, hk, fun hn => ?_⟩
  have hbc : bx c = .none := hn (c, .box cs) List.mem_cons_self (Nat.le_refl _)
  refine ⟨.pointer (some ⟨w.heap.size, 0, none⟩), w.alloc (.cells us.toArray t), _, ?_, h.newBox hbc cs us t hr, ?_⟩
  · rw [hs]
    simp only [newVar, newRow, Sem.run_bind, run_newObj, Result.andThen_ok, Sem.run_pure, hv]
    rfl
  · simp only [Rel, Gh.setB, upd_same]; exact ⟨_, rfl, rfl⟩

theorem alloc_val (h : Gam C sl bx g a w) {c : Nat} {t : TypeId} (hK : aAlloc c (tyOf P t) K) : ValR P C sl bx g a w c K (Instr.alloc t true (.tuple #[])) := by
  generalize ht : tyOf P t = T at hK
  cases T
  case one z =>
    simp only [aAlloc] at hK
    obtain ⟨i, z', hi, hs, hz, ⟨rfl, h1⟩, _⟩ := tyOf_one (w := w) ht
    refine newVar_val h hK (v := z') (us := [z']) (t := t) (by rw [oneCell_cells h1]) (RelL.cons (ofV_rel z') (by simp only [RelL])) ?_
    simp only [Instr.alloc, zeroValue, typeInfo, Sem.run_bind, run_program, Result.andThen_ok, hi, Sem.run_pure, hz]
  case flat zs =>
    simp only [aAlloc] at hK
    obtain ⟨i, fs, cs, hi, hu, hs, hz, hcs, rfl, hf, _⟩ := tyOf_flat (w := w) ht
    refine newVar_val h hK (v := .agg cs) (us := cs.toList) (t := t) (by simp [Value.cells]) ?_ ?_
    · have : ∀ l : List Value, RelL w (Mut g bx) C.F g C.args (l.map AV.ofV) l := fun l => by
        induction l with
        | nil => simp only [List.map_nil, RelL]
        | cons x r ih => exact RelL.cons (ofV_rel x) ih
      exact this _
    · simp only [Instr.alloc, zeroValue, typeInfo, Sem.run_bind, run_program, Result.andThen_ok, hi, Sem.run_pure, hz]
  case bad => exact hK.elim

theorem box_val (h : Gam C sl bx g a w) {c : Nat} {t : TypeId} {x : AV} (hK : aBox c x.cells K) {vx : Value} (hx : Rel w (Mut g bx) C.F g C.args x vx) : ValR P C sl bx g a w c K (Instr.box t vx) := by
  generalize hc : x.cells = cs at hK
  cases cs
  case none => exact hK.elim
  case some cs =>
    simp only [aBox] at hK
    obtain ⟨us, hv, hr⟩ := cells_rel hc hx
    exact newVar_val h hK hv hr (t := t) rfl

/-- A store. -/
theorem store_val (h : Gam C sl bx g a w) {c : Nat} {t : TypeId} {p y : AV} (hK : aStore (tyOf P t) p (bx p.blk) y K) {vp vy : Value} (hp : Rel w (Mut g bx) C.F g C.args p vp) (hy : Rel w (Mut g bx) C.F g C.args y vy) :
    ∃ us ac, K .undef us ac ∧ ∃ w', (Instr.storeAt t vp vy).run P w = .ok () w' ∧ Gam C sl (updsF bx us) g a w' := by
  generalize ht : tyOf P t = T at hK
  generalize hb : bx p.blk = B at hK
  have hbx := h.bxs p.blk
  rw [hb] at hbx
  unfold aStore at hK
  split at hK
  · -- one cell of a variable
    rename_i z b off cs
    simp only [AV.blk] at hbx hb
    obtain ⟨⟨hoff, h1⟩, hk⟩ := hK
    obtain ⟨_, k, cur, e, hg, hh, hr⟩ := hbx
    simp only [Rel] at hp; obtain ⟨k', hk', rfl⟩ := hp
    rw [hg] at hk'; cases hk'
    obtain ⟨i, z', hi, hs, hz, _, hag⟩ := tyOf_one (w := w) ht
    have h1v := one_rel h1 hy
    have hl := hr.length
    have hst := run_storeCells_at (P := P) k off e [vy] 0 cur w hh (by simp at hl ⊢; omega) (by simpa using h1v)
    refine ⟨_, _, hk, _, ?_, Gam.setBox h hb hg hh (cells' := cs.set off y) (us := cur.toList.set off vy) (hr.set off hy)⟩
    simp only [Instr.storeAt, Instr.sureAddr, Sem.run_bind, Sem.run_pure, Result.andThen_ok, storeVar, oneCell_cells h1v, run_sizeOf' hi, hs]
    simp only [List.size_toArray, List.length_cons, List.length_nil, Nat.zero_add, ne_eq, not_true_eq_false, if_false, Sem.run_pure, Result.andThen_ok, hst]
    congr 2
    simp only [Nat.add_zero, List.length_cons, List.length_nil, Nat.zero_add]
    congr 1
    rw [List.set_eq_take_append_cons_drop, if_pos (by simp at hl ⊢; omega)]; simp
  · -- a whole struct
    rename_i zs b off cs vs
    simp only [AV.blk] at hbx hb
    obtain ⟨⟨h0, hl1, hl2, hall⟩, hk⟩ := hK
    obtain ⟨_, k, cur, e, hg, hh, hr⟩ := hbx
    simp only [Rel] at hp hy; obtain ⟨k', hk', rfl⟩ := hp
    obtain ⟨us, rfl, hu⟩ := hy
    rw [hg] at hk'; cases hk'
    subst h0
    obtain ⟨i, fs, cs', hi, hul, hs, hz, hcs, hzs, hf, hag⟩ := tyOf_flat (w := w) ht
    have hsz : us.length = i.size := by rw [hu.length, hl2, hzs, hs]; simp [hcs]
    have hcur : cur.size = us.length := by have := hr.length; simp at this; rw [this, hu.length, hl1, hl2]
    have hone : ∀ v ∈ us, v.oneCell' = true := fun v hv => by
      obtain ⟨j, hj⟩ := List.mem_iff_getElem?.1 hv
      have hr := hu.get hj
      have hlt : j < vs.length := by rw [← hu.length]; exact (List.getElem?_eq_some_iff.1 hj).1
      refine one_rel (List.all_eq_true.1 hall _ ?_) hr
      rw [List.getD_eq_getElem?_getD, List.getElem?_eq_getElem hlt]; exact List.getElem_mem hlt
    have hst := run_storeCells_at (P := P) k 0 e us 0 cur w hh (by omega) hone
    refine ⟨_, _, hk, _, ?_, Gam.setBox h hb hg hh (cells' := vs) (us := us) hu⟩
    simp only [Instr.storeAt, Instr.sureAddr, Sem.run_bind, Sem.run_pure, Result.andThen_ok, storeVar, Value.cells, run_sizeOf' hi, List.size_toArray, hsz, ne_eq, not_true_eq_false, if_false, hst]
    congr 2
    simp [hcur, hsz]
  · -- a row's element
    rename_i z b n i e k0 xs k' v
    simp only [AV.blk] at hbx hb
    obtain ⟨⟨rfl, hn, hlt⟩, hk⟩ := hK
    simp only [Rel] at hp hy; obtain ⟨hi, k, l, cap, hg, rfl⟩ := hp
    subst hy
    obtain ⟨_, _, h3⟩ := hbx
    obtain ⟨ti, z', hti, hs, hz, _, hag⟩ := tyOf_one (w := w) ht
    rcases h3 with ⟨hz0, hnn⟩ | ⟨k1, cap', cur, hv, hh, a1, a2, a3, a4, a5⟩
    · simp only [SC.len] at hz0; omega
    · simp only [SC.len] at hv a2
      rw [hn, hg] at hv; cases hv
      have hst := run_storeCells_at (P := P) k i.toNat e [.int k0 v] 0 cur w hh (by simp; omega) (by simp [Value.oneCell'])
      refine ⟨_, _, hk, w.setRow k (cur.setIfInBounds i.toNat (.int k0 v)), ?_, Gam.setRow h hb (c' := .ints k0 (xs.set i.toNat v)) (by simp only [SC.len, hn]; exact hg) hh (by simp [SC.len]) (by simp) (fun j hj => ?_)⟩
      · simp only [Instr.storeAt, Instr.sureAddr, Sem.run_bind, Sem.run_pure, Result.andThen_ok, storeVar, Value.cells, run_sizeOf' hti, hs]
        simp only [List.size_toArray, List.length_cons, List.length_nil, Nat.zero_add, ne_eq, not_true_eq_false, if_false, Sem.run_pure, Result.andThen_ok, hst]
        congr 2
        simp only [Nat.add_zero, List.length_cons, List.length_nil, Nat.zero_add]
        apply Array.ext'
        rw [Array.toList_setIfInBounds, List.set_eq_take_append_cons_drop, if_pos (by simp; omega)]; simp
      · obtain ⟨u, hu, he⟩ := a5 j hj
        simp only [ElR] at he ⊢
        by_cases e1 : j = i.toNat
        · subst e1
          refine ⟨.int k0 v, by simp [Array.getElem?_setIfInBounds]; omega, ?_⟩
          simp only [SC.len] at hj
          simp [List.getD, hj]
        · refine ⟨u, by rw [Array.getElem?_setIfInBounds_ne (by omega)]; exact hu, ?_⟩
          rw [he]; simp [List.getD, List.getElem?_set_ne (by omega : i.toNat ≠ j)]
  · exact hK.elim

/-! ### Literals -/

theorem fill_one (place : Nat → Option (Nat × Nat)) (hp : ∀ i, place i = none ∨ place i = some (i, 1)) : ∀ (parts : List (Nat × Value)) (cells : Array Value), (∀ p ∈ parts, p.1 < cells.size ∧ p.2.oneCell' = true ∧ place p.1 = some (p.1, 1)) →
    Instr.fill place cells parts = some (parts.foldl (fun cs p => cs.setIfInBounds p.1 p.2) cells)
  | [], cells, _ => rfl
  | (i, v) :: rest, cells, h => by
    obtain ⟨h1, h2, h3⟩ := h (i, v) List.mem_cons_self
    simp only at h1 h2 h3
    simp only [Instr.fill, h3, oneCell_cells h2, List.size_toArray, List.length_cons, List.length_nil]
    rw [if_neg (by simp; omega)]
    have e : ((#[v] : Array Value).zipIdx.foldl (fun cs (x : Value × Nat) => cs.setIfInBounds (i + x.2) x.1) cells) = cells.setIfInBounds i v := by
      simp
    simp only [e, List.foldl_cons]
    exact fill_one place hp rest _ (fun p hp => by
      obtain ⟨a1, a2, a3⟩ := h p (List.mem_cons_of_mem _ hp)
      exact ⟨by simpa using a1, a2, a3⟩)

theorem mapM_run {α β : Type} (f : α → Sem β) (gf : α → β) : ∀ (l : List α), (∀ x ∈ l, (f x).run P w = .ok (gf x) w) → (l.mapM f).run P w = .ok (l.map gf) w
  | [], _ => rfl
  | x :: r, h => by
    simp only [List.mapM_cons, Sem.run_bind, h x List.mem_cons_self, Result.andThen_ok, mapM_run f gf r (fun y hy => h y (List.mem_cons_of_mem _ hy)), Sem.run_pure, List.map_cons]

theorem foldl_rel {M F : Nat → Prop} {args : List Value} : ∀ (ps : List (Nat × AV)) (vs : List Value), vs.length = ps.length → (∀ (i : Nat) (p : Nat × AV) (v : Value), ps[i]? = some p → vs[i]? = some v → Rel w M F g args p.2 v) → ∀ (zs : List AV) (us : Array Value), RelL w M F g args zs us.toList →
    RelL w M F g args (fillA zs ps) (((ps.map (·.1)).zip vs).foldl (fun cs (p : Nat × Value) => cs.setIfInBounds p.1 p.2) us).toList
  | [], vs, hl, _, zs, us, h => by simpa [fillA] using h
  | (i, x) :: r, [], hl, _, zs, us, h => by simp at hl
  | (i, x) :: r, v :: vs, hl, hr, zs, us, h => by
    simp only [fillA, List.map_cons, List.zip_cons_cons, List.foldl_cons]
    refine foldl_rel r vs (by simpa using hl) (fun j p u hp hu => hr (j + 1) p u (by simpa using hp) (by simpa using hu)) _ _ ?_
    rw [Array.toList_setIfInBounds]
    exact h.set i (hr 0 (i, x) v rfl rfl)

theorem build_val (h : Gam C sl bx g a w) {c : Nat} {t : TypeId} {ps : List (Nat × AV)} (hK : aBuild ps (tyOf P t) K) {vs : List Value} (hl : vs.length = ps.length)
    (hr : ∀ (i : Nat) (p : Nat × AV) (v : Value), ps[i]? = some p → vs[i]? = some v → Rel w (Mut g bx) C.F g C.args p.2 v) {parts : Array (Nat × Value)} (hparts : parts.toList = (ps.map (·.1)).zip vs) :
    ValR P C sl bx g a w c K (Instr.build t parts) := by
  generalize ht : tyOf P t = T at hK
  cases T
  case one z => exact hK.elim
  case bad => exact hK.elim
  case flat zs =>
    simp only [aBuild] at hK
    obtain ⟨hall, hk⟩ := hK
    obtain ⟨i, fs, cs, hi, hu, hs, hz, hcs, rfl, hf, _⟩ := tyOf_flat (w := w) ht
    have hpl : ∀ p ∈ parts.toList, p.1 < cs.size ∧ p.2.oneCell' = true ∧ (fs.toList.map fun f => (f.offset, 1)).toArray[p.1]? = some (p.1, 1) := fun p hp => by
      rw [hparts] at hp
      obtain ⟨j, hj⟩ := List.mem_iff_getElem?.1 hp
      have hz' := List.getElem?_zip_eq_some.1 hj
      obtain ⟨h1, h2⟩ := hz'
      rw [List.getElem?_map] at h1
      cases hpj : ps[j]? with
      | none => rw [hpj] at h1; cases h1
      | some q =>
        rw [hpj] at h1
        simp only [Option.map_some, Option.some.injEq] at h1
        have hq := List.all_eq_true.1 hall q (List.mem_of_getElem? hpj)
        simp only [List.length_map, Array.length_toList, Bool.and_eq_true, decide_eq_true_eq] at hq
        have hlt : p.1 < fs.size := by rw [← h1]; omega
        refine ⟨by rw [← h1]; exact hq.1, one_rel hq.2 (hr j q p.2 hpj h2), ?_⟩
        have := hf p.1 fs[p.1] (Array.getElem?_eq_getElem hlt)
        simp [hlt, this.1]
    have hfill := fill_one (fun j => (fs.toList.map fun f => (f.offset, 1)).toArray[j]?) (fun j => by
      simp only [List.getElem?_toArray, List.getElem?_map, Array.getElem?_toList]
      cases hj : fs[j]? with
      | none => exact .inl rfl
      | some f => exact .inr (by simp [(hf j f hj).1])) parts.toList cs hpl
    have hmap : (fs.mapM fun (f : Field) => (do pure (f.offset, ← sizeOf f.type) : Sem (Nat × Nat))).run P w = .ok (fs.toList.map fun f => (f.offset, 1)).toArray w := by
      have e : fs = fs.toList.toArray := by simp
      rw [e, List.mapM_toArray, Sem.run_map, mapM_run (P := P) (w := w) _ (fun (f : Field) => (f.offset, 1)) fs.toList (fun f hf' => by
        obtain ⟨j, hj⟩ := List.mem_iff_getElem?.1 hf'
        obtain ⟨i', hi', hs'⟩ := oneCell_size (hf j f (by simpa using hj)).2
        simp only [Sem.run_bind, run_sizeOf' hi', Result.andThen_ok, Sem.run_pure, hs'])]
      simp
    refine .same h hk (u := .agg (parts.toList.foldl (fun cs p => cs.setIfInBounds p.1 p.2) cs)) ?_ ?_
    · simp only [Rel]
      refine ⟨_, by rw [Array.toArray_toList], ?_⟩
      rw [hparts]
      refine foldl_rel ps vs hl hr _ cs ?_
      have : ∀ l : List Value, RelL w (Mut g bx) C.F g C.args (l.map AV.ofV) l := fun l => by
        induction l with
        | nil => simp only [List.map_nil, RelL]
        | cons x r ih => exact RelL.cons (ofV_rel x) ih
      exact this _
    · simp only [Instr.build, zeroValue, typeInfo, Sem.run_bind, run_program, Result.andThen_ok, hi, Sem.run_pure, hz, run_underlying hu, hmap, Value.cells, hfill]
end

end AM
end Go.Proofs.YtbookhehpebcmaaGreatDoor
