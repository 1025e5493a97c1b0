/-
  An abstract machine over the kit's Code.wp, and its soundness: part 6, operations on the memory.
-/
import Derived.Test.YtbookhehpebcmaaGreatDoorA5
namespace Go.Proofs.YtbookhehpebcmaaGreatDoor
namespace AM
set_option linter.unusedVariables false
set_option linter.unusedSimpArgs false

section types
variable {P : Program} {t : TypeId} {w : World}

theorem run_sizeOf' {i : TypeInfo} (h : P.info? t = some i) : (sizeOf t).run P w = .ok i.size w := by simp [sizeOf, typeInfo, h]

/-- What it says that a type is of one cell. -/
theorem tyOf_one {z : AV} (h : tyOf P t = .one z) : ∃ i z', P.info? t = some i ∧ i.size = 1 ∧ i.zero = some z' ∧ (z = AV.ofV z' ∧ z'.oneCell' = true) ∧ (isAgg t).run P w = .ok false w := by
  unfold tyOf at h
  split at h
  · split at h
    · split at h
      · split at h <;> cases h
      · cases h
    · cases h
  · cases h
  · rename_i d i hns hna hu hi
    split at h
    · rename_i hs
      split at h
      · rename_i z' hz
        split at h
        · rename_i h1c
          cases h
          refine ⟨i, z', hi, by simpa using hs, hz, ⟨rfl, h1c⟩, ?_⟩
          unfold isAgg
          rw [Sem.run_bind, run_underlying hu w]
          cases d <;> simp_all
        · cases h
      · cases h
    · cases h
  · cases h

theorem tyOf_flat {zs : List AV} (h : tyOf P t = .flat zs) : ∃ i fs cs, P.info? t = some i ∧ P.underlying t = some (.struct fs) ∧ i.size = fs.size ∧ i.zero = some (.agg cs) ∧ cs.size = fs.size ∧ zs = cs.toList.map AV.ofV ∧
    (∀ (j : Nat) (f : Field), fs[j]? = some f → f.offset = j ∧ oneCell P f.type = true) ∧ (isAgg t).run P w = .ok true w := by
  unfold tyOf at h
  split at h
  · rename_i fs i hu hi
    split at h
    · rename_i hc
      simp only [Bool.and_eq_true, beq_iff_eq] at hc
      obtain ⟨hall, hsz⟩ := hc
      split at h
      · rename_i cs hz
        split at h
        · rename_i hcs
          cases h
          refine ⟨i, fs, cs, hi, hu, hsz, hz, by simpa using hcs, rfl, fun j f hf => ?_, ?_⟩
          · have := List.all_eq_true.1 hall (f, j) (by
              rw [List.mem_iff_getElem?]
              exact ⟨j, by simp [List.getElem?_zipIdx, hf]⟩)
            simpa using this
          · unfold isAgg
            rw [Sem.run_bind, run_underlying hu w]
            rfl
        · cases h
      · cases h
    · cases h
  · cases h
  · split at h
    · split at h
      · split at h <;> cases h
      · cases h
    · cases h
  · cases h

theorem oneCell_size {e : TypeId} (h : oneCell P e = true) : ∃ i, P.info? e = some i ∧ i.size = 1 := by
  unfold oneCell at h
  split at h
  · cases h
  · cases h
  · rename_i d i _ _ _ _; exact ⟨i, ‹_›, by simpa using h⟩
  · cases h

theorem slTy_spec {e : TypeId} {c0 : SC} (h : slTy P t = some (e, c0)) : P.underlying t = some (.slice e) ∧ c0.len = 0 ∧ ∃ i z, P.info? e = some i ∧ i.size = 1 ∧ i.bytes ≤ 64 ∧ i.zero = some z ∧ z.oneCell' = true ∧ (∀ k xs, c0 = .ints k xs → z = .int k 0) := by
  unfold slTy at h
  split at h
  · rename_i e' hu
    split at h
    · rename_i ho
      unfold elTy at ho
      simp only [Bool.and_eq_true] at ho
      obtain ⟨ho1, ho2⟩ := ho
      obtain ⟨i, hi, hs⟩ := oneCell_size ho1
      rw [hi] at ho2
      simp only [Bool.and_eq_true, decide_eq_true_eq] at ho2
      obtain ⟨hb, hz⟩ := ho2
      split at hz
      · rename_i z hz'
        split at h
        · split at h
          · rename_i hzi
            cases h
            refine ⟨hu, rfl, i, z, hi, hs, hb, hz', hz, fun k xs e => ?_⟩
            cases e
            unfold zeroIs at hzi
            rw [hi] at hzi
            simp only [hz'] at hzi
            split at hzi
            · rename_i hz2
              cases hz2
              simp only [Bool.and_eq_true, beq_iff_eq] at hzi
              rw [hzi.1, hzi.2]
            · cases hzi
          · cases h
        · cases h; exact ⟨hu, rfl, i, z, hi, hs, hb, hz', hz, fun k xs e => by cases e⟩
        · cases h; exact ⟨hu, rfl, i, z, hi, hs, hb, hz', hz, fun k xs e => by cases e⟩
        · cases h
      · cases hz
    · cases h
  · cases h

theorem slTy2_spec {l : List TypeId} {p : TypeId × SC} (h : slTy2 P l = some p) : ∃ t, l = [t, t] ∧ slTy P t = some p := by
  unfold slTy2 at h
  split at h
  · split at h
    · rename_i e; subst e; exact ⟨_, rfl, h⟩
    · cases h
  · cases h
end types

section
variable {P : Program} {C : Cx} {sl : Nat → AV} {bx : Nat → Bx} {g : Gh} {a : Act} {w : World} {K : Kt}

theorem add_none (k off i : Nat) : (⟨k, off, none⟩ : Addr).add i = ⟨k, off + i, none⟩ := by unfold Addr.add; split <;> simp_all

/-- A load from a variable of one cell. -/
theorem run_load_one {t : TypeId} {z : AV} (ht : tyOf P t = .one z) {ad : Addr} {u : Value} (hc : w.cell? ad = some u) : (Instr.loadAt t (.pointer (some ad))).run P w = .ok u w := by
  obtain ⟨i, z', hi, hs, hz, _, hag⟩ := tyOf_one (w := w) ht
  simp only [Instr.loadAt, Instr.sureAddr, Sem.run_bind, Sem.run_pure, Result.andThen_ok, loadVar, hag, Bool.false_eq_true, if_false, run_load, hc]

theorem run_load_flat {t : TypeId} {zs : List AV} (ht : tyOf P t = .flat zs) {k : Nat} {us : List Value} (hl : us.length = zs.length) (hc : ∀ i u, us[i]? = some u → w.cell? ⟨k, i, none⟩ = some u) :
    (Instr.loadAt t (.pointer (some ⟨k, 0, none⟩))).run P w = .ok (.agg us.toArray) w := by
  obtain ⟨i, fs, cs, hi, hu, hs, hz, hcs, hzs, hf, hag⟩ := tyOf_flat (w := w) ht
  have hlen : i.size = us.length := by rw [hs, hl, hzs]; simp [hcs]
  have hld := run_loadCells_list (P := P) w ⟨k, 0, none⟩ us (fun j v hv => by rw [add_none, Nat.zero_add]; exact hc j v hv)
  simp only [Instr.loadAt, Instr.sureAddr, Sem.run_bind, Sem.run_pure, Result.andThen_ok, loadVar, hag, if_true, run_sizeOf' hi, hlen, hld]

theorem box_cell {b k : Nat} {cells : List AV} {cur : Array Value} {e : TypeId} (hh : w.heap[k]? = some (.cells cur e (0, 0))) {i : Nat} {u : Value} (hu : cur.toList[i]? = some u) : w.cell? ⟨k, i, none⟩ = some u := by
  rw [cell_of_row w k i cur e (0, 0) hh]; simpa using hu

theorem SC.get_rel {M F : Nat → Prop} {args : List Value} {c : SC} {i : Nat} {u : Value} (h : ElR w M F c i u) : Rel w M F g args (c.get i) u := by
  cases c with
  | ints k xs => simp only [ElR] at h; simp only [SC.get, Rel]; exact h
  | rows fr xss =>
    simp only [ElR] at h; simp only [SC.get, Rel]
    obtain ⟨⟨a, cap, hv, h1, h2, h3⟩, hs⟩ := h
    exact ⟨⟨a, cap, hv, h1, h2, fun j hj => ⟨_, h3 j hj, rfl⟩⟩, hs⟩
  | strs ss => simp only [ElR] at h; simp only [SC.get, Rel]; exact h

theorem load_sim (h : Gam C sl bx g a w) {t : TypeId} {x : AV} (hK : aLoad (tyOf P t) x (bx x.blk) K) {vx : Value} (hx : Rel w (Mut g bx) C.F g C.args x vx) :
    ∃ v u ac, K v [] ac ∧ Rel w (Mut g bx) C.F g C.args v u ∧ (Instr.loadAt t vx).run P w = .ok u w := by
  generalize hb : bx x.blk = B at hK
  generalize ht : tyOf P t = T at hK
  unfold aLoad at hK
  have hbx := h.bxs x.blk
  rw [hb] at hbx
  split at hK
  · -- a variable's cell
    simp only [AV.blk] at hbx
    obtain ⟨_, k, cur, e, hk, hh, hr⟩ := hbx
    simp only [Rel] at hx; obtain ⟨k', hk', rfl⟩ := hx
    rw [hk] at hk'; cases hk'
    have hl := hr.length
    have hu : cur.toList[_]? = some _ := List.getElem?_eq_getElem (by rw [hl]; exact hK.1)
    exact ⟨_, _, _, hK.2, hr.get hu, run_load_one ht (box_cell (cells := []) (b := 0) hh hu)⟩
  · simp only [AV.blk] at hbx
    obtain ⟨_, k, us, hk, hlt, hm, hr, hc⟩ := hbx
    simp only [Rel] at hx; obtain ⟨k', hk', rfl⟩ := hx
    rw [hk] at hk'; cases hk'
    have hl := hr.length
    have hu : us[_]? = some _ := List.getElem?_eq_getElem (by rw [hl]; exact hK.1)
    exact ⟨_, _, _, hK.2, hr.get hu, run_load_one ht (hc _ _ hu)⟩
  · simp only [AV.blk] at hbx
    obtain ⟨_, k, cur, e, hk, hh, hr⟩ := hbx
    simp only [Rel] at hx; obtain ⟨k', hk', rfl⟩ := hx
    rw [hk] at hk'; cases hk'
    obtain ⟨⟨h0, hl⟩, hk⟩ := hK
    refine ⟨_, .agg cur.toList.toArray, _, hk, by simp only [Rel]; exact ⟨cur.toList, rfl, hr⟩, ?_⟩
    rw [h0]
    exact run_load_flat ht (by rw [hr.length, hl]) (fun i u hi => box_cell (cells := []) (b := 0) hh hi)
  · simp only [AV.blk] at hbx
    obtain ⟨_, k, us, hk, hlt, hm, hr, hc⟩ := hbx
    simp only [Rel] at hx; obtain ⟨k', hk', rfl⟩ := hx
    rw [hk] at hk'; cases hk'
    obtain ⟨⟨h0, hl⟩, hk⟩ := hK
    refine ⟨_, .agg us.toArray, _, hk, by simp only [Rel]; exact ⟨us, rfl, hr⟩, ?_⟩
    rw [h0]
    exact run_load_flat ht (by rw [hr.length, hl]) hc
  · simp only [Rel] at hx; obtain ⟨k, us, rfl, hlt, hm, hc, hr⟩ := hx
    have hl := hr.length
    have hu : us[_]? = some _ := List.getElem?_eq_getElem (by rw [hl]; exact hK.1)
    exact ⟨_, _, _, hK.2, hr.get hu, run_load_one ht (hc _ _ hu)⟩
  · simp only [Rel] at hx; obtain ⟨k, us, rfl, hlt, hm, hc, hr⟩ := hx
    obtain ⟨⟨h0, hl⟩, hk⟩ := hK
    refine ⟨_, .agg us.toArray, _, hk, by simp only [Rel]; exact ⟨us, rfl, hr⟩, ?_⟩
    rw [h0]
    exact run_load_flat ht (by rw [hr.length, hl]) hc
  · simp only [Rel] at hx; obtain ⟨ad, u, rfl, hs, hm, hc, hr⟩ := hx
    exact ⟨_, _, _, hK, hr, run_load_one ht hc⟩
  · rename_i z b n i e c
    simp only [AV.blk] at hbx
    simp only [Rel] at hx; obtain ⟨hi, k, l, cap, hk, rfl⟩ := hx
    obtain ⟨⟨hlen, hlt⟩, hk2⟩ := hK
    obtain ⟨_, _, h3⟩ := hbx
    rcases h3 with ⟨h0, hn⟩ | ⟨k', cap', cur, hv, hh, a1, a2, a3, a4, a5⟩
    · omega
    · rw [hlen] at hv; rw [hk] at hv; cases hv
      obtain ⟨u, hu, he⟩ := a5 i.toNat (by omega)
      refine ⟨_, u, _, hk2, SC.get_rel he, run_load_one ht ?_⟩
      rw [cell_of_row w _ _ cur _ (0, 0) hh]; exact hu
  · rename_i z b n i e c
    simp only [AV.blk] at hbx
    simp only [Rel] at hx; obtain ⟨hi, k, l, cap, hk, rfl⟩ := hx
    obtain ⟨⟨hlen, hlt⟩, hk2⟩ := hK
    obtain ⟨_, _, v, hv, ⟨a, cap', rfl, b1, b2, b3⟩, _⟩ := hbx
    rw [hlen] at hv; rw [hk] at hv; cases hv
    obtain ⟨u, ⟨ad, had, hs, hm, hc⟩, he⟩ := b3 i.toNat (by omega)
    cases had
    refine ⟨_, u, _, hk2, SC.get_rel he, run_load_one ht ?_⟩
    simpa using hc
  · exact hK.elim
end

end AM
end Go.Proofs.YtbookhehpebcmaaGreatDoor
