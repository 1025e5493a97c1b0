/-
  An abstract machine over the kit's Code.wp, and its soundness: part 11, indexes, fields, lengths, slices of slices, make.
-/
import Derived.Test.YtbookhehpebcmaaGreatDoorA10
namespace Go.Proofs.YtbookhehpebcmaaGreatDoor
namespace AM
set_option linter.unusedVariables false
set_option linter.unusedSimpArgs false

section
variable {P : Program} {C : Cx} {sl : Nat → AV} {bx : Nat → Bx} {g : Gh} {a : Act} {w : World} {K : Kt}

theorem run_indexAt {t e : TypeId} {ti : TypeInfo} (ht : P.underlying t = some (.slice e)) (hi : P.info? e = some ti) (hs : ti.size = 1) (k : IntKind) (i : Int) (k0 off n cap : Nat) (h0 : 0 ≤ i) (h1 : i < n) :
    (Instr.indexAt t (.slice (some ⟨k0, off, none⟩) n cap) (.int k i)).run P w = .ok (.pointer (some ⟨k0, off + i.toNat, none⟩)) w := by
  simp only [Instr.indexAt, asIntOf, Sem.run_bind, Sem.run_pure, Result.andThen_ok, run_underlying ht]
  rw [Sem.run_ite]
  have hc : (0 ≤ i ∧ i < (n : Int)) := ⟨h0, h1⟩
  simp only [Sem.run_bind, run_underlying ht, Result.andThen_ok, Sem.run_pure, hc, and_self, if_true, run_sizeOf' hi, hs, Nat.mul_one, add_none]

theorem idx_val (h : Gam C sl bx g a w) {c : Nat} {t : TypeId} {i x : AV} (hK : aIdx (slTy P t) i x (bx x.blk) K) {vi vx : Value} (hi : Rel w (Mut g bx) C.F g C.args i vi) (hx : Rel w (Mut g bx) C.F g C.args x vx) :
    ValR P C sl bx g a w c K (Instr.indexAt t vx vi) := by
  generalize hst : slTy P t = st at hK
  generalize hb : bx x.blk = B at hK
  have hbx := h.bxs x.blk
  rw [hb] at hbx
  have view : ∀ {k : IntKind} {j : Int} {fr : Option TypeId} {d : SC} {vx : Value}, st.isSome = true → 0 ≤ j → j < d.len → Vw w (Mut g bx) C.F fr vx d →
      ∃ u, Rel w (Mut g bx) C.F g C.args (.ep (d.get j.toNat)) u ∧ (Instr.indexAt t vx (.int k j)).run P w = .ok u w := by
    intro k j fr d vx hs h0 h1 hv
    obtain ⟨⟨e, c0⟩, rfl⟩ := Option.isSome_iff_exists.1 hs
    obtain ⟨ht, _, ti, z, hti, hts, _⟩ := slTy_spec hst
    obtain ⟨⟨ad, cap, rfl, h2, h3, h4⟩, _⟩ := hv
    obtain ⟨u, ⟨ad, rfl, hsp, hm, hc⟩, he⟩ := h4 j.toNat (by omega)
    obtain ⟨k0, off, spot⟩ := ad
    simp only at hsp hm hc; subst hsp
    refine ⟨_, ?_, run_indexAt ht hti hts k j k0 off _ cap h0 h1⟩
    simp only [Rel]
    exact ⟨_, u, rfl, rfl, hm, hc, SC.get_rel he⟩
  unfold aIdx at hK
  split at hK
  · simp only [Rel] at hi hx; subst hi
    obtain ⟨⟨h1, h2, h3⟩, hk⟩ := hK
    obtain ⟨u, hu, hr⟩ := view h1 h2 h3 hx
    exact .same h hk hu hr
  · simp only [Rel] at hi hx; subst hi
    obtain ⟨⟨h1, h2, h3⟩, hk⟩ := hK
    obtain ⟨u, hu, hr⟩ := view h1 h2 h3 hx.1
    exact .same h hk hu hr
  · rename_i kk j b n e d
    simp only [Rel] at hi hx; subst hi
    simp only [AV.blk] at hbx
    obtain ⟨⟨h1, hl, h2, h3⟩, hk⟩ := hK
    obtain ⟨⟨e', c0⟩, rfl⟩ := Option.isSome_iff_exists.1 h1
    obtain ⟨ht, _, ti, z, hti, hts, _⟩ := slTy_spec hst
    obtain ⟨_, _, h4⟩ := hbx
    rcases h4 with ⟨h5, _⟩ | ⟨k0, cap, cur, hv, _⟩
    · omega
    · rw [hl] at hv; rw [hv] at hx; cases hx
      refine .same h hk (u := .pointer (some ⟨k0, 0 + j.toNat, none⟩)) ?_ (run_indexAt ht hti hts kk j k0 0 _ cap h2 h3)
      simp only [Rel]; exact ⟨h2, k0, _, cap, hv, by rw [Nat.zero_add]⟩
  · rename_i kk j b n e d
    simp only [Rel] at hi hx; subst hi
    simp only [AV.blk] at hbx
    obtain ⟨⟨h1, hl, h2, h3⟩, hk⟩ := hK
    obtain ⟨⟨e', c0⟩, rfl⟩ := Option.isSome_iff_exists.1 h1
    obtain ⟨ht, _, ti, z, hti, hts, _⟩ := slTy_spec hst
    obtain ⟨_, _, v, hv, hw, hsh⟩ := hbx
    rw [hl] at hv; rw [hv] at hx; cases hx
    obtain ⟨ad, cap, rfl, _⟩ := hw
    rcases hsh with h5 | ⟨k0, n', cap', cur, h5, _⟩
    · have e : d.len = 0 := by injection h5
      omega
    · cases h5
      refine .same h hk (u := .pointer (some ⟨k0, 0 + j.toNat, none⟩)) ?_ (run_indexAt ht hti hts kk j k0 0 _ _ h2 (by omega))
      simp only [Rel]; exact ⟨h2, k0, _, _, hv, by rw [Nat.zero_add]⟩
  · exact hK.elim

theorem run_fieldAt {t : TypeId} {zs : List AV} (ht : tyOf P t = .flat zs) {f : Nat} (hf : f < zs.length) (k off : Nat) :
    (Instr.fieldAt t (.pointer (some ⟨k, off, none⟩)) f).run P w = .ok (.pointer (some ⟨k, off + f, none⟩)) w := by
  obtain ⟨i, fs, cs, hi, hu, hs, hz, hcs, hzs, hfs, _⟩ := tyOf_flat (w := w) ht
  have hlt : f < fs.size := by rw [hzs] at hf; simp at hf; omega
  have hff : fs[f]? = some fs[f] := Array.getElem?_eq_getElem hlt
  obtain ⟨ho, h1⟩ := hfs f _ hff
  obtain ⟨i', hi', hs'⟩ := oneCell_size h1
  simp only [Instr.fieldAt, Sem.run_bind, run_underlying hu, Result.andThen_ok, hff, Instr.sureAddr, Sem.run_pure, fieldPlace, run_sizeOf' hi', hs']
  simp [ho, add_none]

theorem field_val (h : Gam C sl bx g a w) {c : Nat} {t : TypeId} {f : Nat} {x : AV} (hK : aField f x (tyOf P t) K) {vx : Value} (hx : Rel w (Mut g bx) C.F g C.args x vx) : ValR P C sl bx g a w c K (Instr.fieldAt t vx f) := by
  generalize ht : tyOf P t = T at hK
  unfold aField at hK
  split at hK
  · simp only [Rel] at hx; obtain ⟨k, hk, rfl⟩ := hx
    exact .same h hK.2 (by simp only [Rel]; exact ⟨k, hk, rfl⟩) (run_fieldAt ht hK.1 k _)
  · simp only [Rel] at hx; obtain ⟨k, us, rfl, h1, h2, h3, h4⟩ := hx
    exact .same h hK.2 (by simp only [Rel]; exact ⟨k, us, rfl, h1, h2, h3, h4⟩) (run_fieldAt ht hK.1 k _)
  · exact hK.elim

theorem isAgg_one {t : TypeId} (h : oneCell P t = true) : (isAgg t).run P w = .ok false w := by
  unfold oneCell at h
  split at h
  · cases h
  · cases h
  · rename_i d i hns hna hu hi
    unfold isAgg
    rw [Sem.run_bind, run_underlying hu w]
    cases d <;> simp_all
  · cases h

theorem fld_val (h : Gam C sl bx g a w) {c : Nat} {t : TypeId} {f : Nat} {x : AV} (hK : aFld f (tyOf P t) x K) {vx : Value} (hx : Rel w (Mut g bx) C.F g C.args x vx) : ValR P C sl bx g a w c K (Instr.field t vx f) := by
  generalize ht : tyOf P t = T at hK
  unfold aFld at hK
  split at hK
  · rename_i zs xs
    simp only [Rel] at hx; obtain ⟨us, rfl, hr⟩ := hx
    obtain ⟨⟨hf, hfx⟩, hk⟩ := hK
    obtain ⟨i, fs, cs, hi, hu, hs, hz, hcs, hzs, hfs, _⟩ := tyOf_flat (w := w) ht
    have hlt : f < fs.size := by rw [hzs] at hf; simp at hf; omega
    have hff : fs[f]? = some fs[f] := Array.getElem?_eq_getElem hlt
    obtain ⟨ho, h1⟩ := hfs f _ hff
    have hq : us[f]? = some _ := List.getElem?_eq_getElem (by rw [hr.length]; exact hfx)
    refine .same h hk (hr.get hq) ?_
    simp only [Instr.field, Sem.run_bind, run_underlying hu, Result.andThen_ok, hff, asAgg, Sem.run_pure, part, isAgg_one h1, ho, Bool.false_eq_true, if_false, List.getElem?_toArray, hq]
  · exact hK.elim

theorem extr_val (h : Gam C sl bx g a w) {c : Nat} {i : Nat} {x : AV} (hK : aExtr i x K) {vx : Value} (hx : Rel w (Mut g bx) C.F g C.args x vx) : ValR P C sl bx g a w c K (Instr.extract vx i) := by
  unfold aExtr at hK
  split at hK
  · simp only [Rel] at hx; obtain ⟨us, rfl, hr⟩ := hx
    have hu : us[i]? = some _ := List.getElem?_eq_getElem (by rw [hr.length]; exact hK.1)
    refine .same h hK.2 (hr.get hu) ?_
    simp only [Instr.extract, List.getElem?_toArray, hu]; rfl
  · exact hK.elim

theorem len_val (h : Gam C sl bx g a w) {c : Nat} {t ty : TypeId} {x : AV} (hK : aLen (P.underlying t) x K) {vx : Value} (hx : Rel w (Mut g bx) C.F g C.args x vx) :
    ValR P C sl bx g a w c K (Builtin.len_ #[t] ty #[vx]) := by
  generalize hu : P.underlying t = u at hK
  have run : ∀ {a n cap e}, u = some (.slice e) → (Builtin.len_ #[t] ty #[.slice a n cap]).run P w = .ok (.int .i64 n) w := by
    rintro a n cap e rfl
    simp [Builtin.len_, run_underlying hu, goInt]
  unfold aLen at hK
  split at hK
  · simp only [Rel] at hx
    obtain ⟨a, cap, rfl⟩ := g.one _ _ _ hx
    exact .same h hK (u := .int .i64 _) (by simp only [Rel]) (run rfl)
  · simp only [Rel] at hx; subst hx
    exact .same h hK (u := .int .i64 _) (by simp only [Rel]; rfl) (run rfl)
  · simp only [Rel] at hx; obtain ⟨⟨a, cap, rfl, _⟩, _⟩ := hx
    exact .same h hK (u := .int .i64 _) (by simp only [Rel]) (run rfl)
  · simp only [Rel] at hx; obtain ⟨⟨⟨a, cap, rfl, _⟩, _⟩, _⟩ := hx
    exact .same h hK (u := .int .i64 _) (by simp only [Rel]) (run rfl)
  · simp only [Rel] at hx; subst hx
    refine .same h hK (u := .int .i64 _) (by simp only [Rel]; rfl) ?_
    simp [Builtin.len_, run_underlying hu, goInt]
  · exact hK.elim

theorem max_val (h : Gam C sl bx g a w) {c : Nat} {ts : Array TypeId} {ty : TypeId} {x y : AV} (hK : aMax x y K) {vx vy : Value} (hx : Rel w (Mut g bx) C.F g C.args x vx) (hy : Rel w (Mut g bx) C.F g C.args y vy) :
    ValR P C sl bx g a w c K (Builtin.max_ ts ty #[vx, vy]) := by
  unfold aMax at hK
  split at hK
  · simp only [Rel] at hx hy; subst hx hy
    exact .same h hK (u := .int _ _) (by simp only [Rel]; rfl) (by simp [Builtin.max_, Builtin.max2])
  · exact hK.elim

theorem min_val (h : Gam C sl bx g a w) {c : Nat} {ts : Array TypeId} {ty : TypeId} {x y : AV} (hK : aMin x y K) {vx vy : Value} (hx : Rel w (Mut g bx) C.F g C.args x vx) (hy : Rel w (Mut g bx) C.F g C.args y vy) :
    ValR P C sl bx g a w c K (Builtin.min_ ts ty #[vx, vy]) := by
  unfold aMin at hK
  split at hK
  · simp only [Rel] at hx hy; subst hx hy
    exact .same h hK (u := .int _ _) (by simp only [Rel]; rfl) (by simp [Builtin.min_, Builtin.min2])
  · exact hK.elim

/-- A view, once the row behind it has died. -/
theorem cont_view (h : Gam C sl bx g a w) {c0 d : SC} (h0 : c0.len = 0) {x : AV} (hc : cont c0 bx x = some d) {v : Value} (hx : Rel w (Mut g bx) C.F g C.args x v) :
    Gam C sl (updsF bx (dies bx x)) g a w ∧ Vw w (Mut g (updsF bx (dies bx x))) C.F none v d := by
  have hL : ∀ p ∈ dies bx x, ∃ e c, p.2 = .drow e c ∧ (bx p.1 = .row e c ∨ bx p.1 = .drow e c) := fun p hp => let ⟨e, c, h1, h2⟩ := dies_spec hp; ⟨e, c, h1, .inl h2⟩
  obtain ⟨hG, hM, hin, hout⟩ := Gam.kills _ bx hL h
  have hkeep : ∀ b e c, bx b = .drow e c → updsF bx (dies bx x) b = .drow e c := fun b e c hb => by
    rw [hout b (fun p hp e1 => ?_)]
    · exact hb
    · obtain ⟨e', c', h1, h2⟩ := dies_spec hp
      rw [e1, hb] at h2; cases h2
  have hs := still_rel h hG hM hkeep hin hx
  refine ⟨hG, ?_⟩
  cases x <;> simp only [cont, Option.some.injEq, reduceCtorEq] at hc
  case nil => subst hc; simp only [Rel] at hx; subst hx; exact ⟨⟨none, 0, by rw [h0], by rw [h0]; exact Nat.le_refl _, Nat.zero_le _, fun i hi => by omega⟩, trivial⟩
  case sl fr c => subst hc; simp only [still, Rel] at hs; exact ⟨hs.1, trivial⟩
  case prm k c => subst hc; simp only [still, Rel] at hs; exact hs.1
  case ref b n =>
    split at hc
    · rename_i e c hb
      split at hc
      · rename_i hl; cases hc; simp only [still, hb, hl, if_true, Rel] at hs; exact ⟨hs.1, trivial⟩
      · cases hc
    · rename_i e c hb
      split at hc
      · rename_i hl; cases hc; simp only [still, hb, hl, if_true, Rel] at hs; exact ⟨hs.1, trivial⟩
      · cases hc
    · cases hc

theorem SC.take_len (c : SC) (n : Nat) : (c.take n).len = min n c.len := by cases c <;> simp [SC.take, SC.len]
theorem SC.drop_len (c : SC) (n : Nat) : (c.drop n).len = c.len - n := by cases c <;> simp [SC.drop, SC.len]
theorem SC.take_el {c : SC} {n i : Nat} {M F : Nat → Prop} {u : Value} (hi : i < n) (h : ElR w M F c i u) : ElR w M F (c.take n) i u := by
  cases c <;> simp only [SC.take, ElR, List.getD, List.getElem?_take, if_pos hi] at * <;> exact h
theorem SC.drop_el {c : SC} {n i : Nat} {M F : Nat → Prop} {u : Value} (h : ElR w M F c (n + i) u) : ElR w M F (c.drop n) i u := by
  cases c <;> simp only [SC.drop, ElR, List.getD, List.getElem?_drop] at * <;> exact h

theorem Vw.take {M F : Nat → Prop} {a : Option Addr} {cap n : Nat} {c : SC} (hn : n ≤ c.len) (h : Vw w M F none (.slice a c.len cap) c) : Vw w M F none (.slice a n cap) (c.take n) := by
  obtain ⟨⟨a', cap', hv, h1, h2, h3⟩, _⟩ := h
  cases hv
  have e : (c.take n).len = n := by rw [SC.take_len]; omega
  refine ⟨⟨a, cap, by rw [e], by omega, h2, fun i hi => ?_⟩, trivial⟩
  obtain ⟨u, hc, he⟩ := h3 i (by omega)
  exact ⟨u, hc, SC.take_el (by omega) he⟩

theorem Vw.drop {M F : Nat → Prop} {a : Option Addr} {cap n : Nat} {c : SC} (hn : n ≤ c.len) (h : Vw w M F none (.slice a c.len cap) c) :
    Vw w M F none (sliced a n c.len cap 1) (c.drop n) := by
  obtain ⟨⟨a', cap', hv, h1, h2, h3⟩, _⟩ := h
  cases hv
  have e : (c.drop n).len = c.len - n := SC.drop_len c n
  refine ⟨⟨_, cap - n, by rw [e]; rfl, by omega, by omega, fun i hi => ?_⟩, trivial⟩
  obtain ⟨u, ⟨ad, rfl, hsp, hm, hc⟩, he⟩ := h3 (n + i) (by omega)
  obtain ⟨k0, off, spot⟩ := ad
  simp only at hsp hm hc; subst hsp
  refine ⟨u, ?_, SC.drop_el he⟩
  rw [if_neg (by omega)]
  simp only [Option.map_some, Nat.mul_one, add_none]
  exact ⟨_, rfl, rfl, hm, by simpa [Nat.add_assoc] using hc⟩

theorem slice_val (h : Gam C sl bx g a w) {c : Nat} {t : TypeId} {x : AV} {lo hi mx : Option AV} (hK : aSlice (slTy P t).isSome (dies bx x) x.bid (cont (SC0 (slTy P t)) bx x) lo hi mx K) {vx : Value} (hx : Rel w (Mut g bx) C.F g C.args x vx)
    {vlo vhi vmx : Option Value} (hlo : ∀ y, lo = some y → ∃ v, vlo = some v ∧ Rel w (Mut g bx) C.F g C.args y v) (hlo' : lo = none → vlo = none)
    (hhi : ∀ y, hi = some y → ∃ v, vhi = some v ∧ Rel w (Mut g bx) C.F g C.args y v) (hhi' : hi = none → vhi = none) (hmx' : mx = none → vmx = none) : ValR P C sl bx g a w c K (Instr.sliceAt t vx vlo vhi vmx) := by
  have hst : (slTy P t).isSome = true := by
    unfold aSlice at hK
    split at hK <;> first | exact hK.elim | exact hK.1.1
  obtain ⟨⟨e, c0⟩, hst⟩ := Option.isSome_iff_exists.1 hst
  obtain ⟨ht, h0, ti, z, hti, hts, _⟩ := slTy_spec hst
  have hte : P.underlying t = some (.slice (P.elem t)) := by rw [ht]; simp [Program.elem, ht]
  have hee : P.elem t = e := by have := hte; rw [ht] at this; cases this; rfl
  rw [hst] at hK
  simp only [SC0] at hK
  generalize hcc : cont c0 bx x = oc at hK
  unfold aSlice at hK
  split at hK
  · rename_i d _ hh
    obtain ⟨⟨_, h1, h2⟩, hk⟩ := hK
    obtain ⟨v, rfl, hr⟩ := hhi _ rfl
    simp only [Rel] at hr; subst hr
    obtain rfl := hlo' rfl
    obtain rfl := hmx' rfl
    obtain ⟨hG, hv⟩ := cont_view h h0 hcc hx
    have hv' := hv
    obtain ⟨⟨ad, cap, rfl, h3, h4, h5⟩, _⟩ := hv
    refine ⟨_, _, _, hk, fun _ => ⟨.slice ad hh.toNat cap, w, g, ?_, hG, by simp only [Rel]; exact Vw.take (by omega) hv'⟩⟩
    rw [run_sliceAt_slice w t _ _ _ _ hte, run_slice_h w t ad d.len cap hte _ hh h1 (by omega), hee, run_sizeOf' hti]
    simp only [Result.andThen_ok, sliced, Nat.zero_mul, Nat.sub_zero]
    congr 2
    split
    · rfl
    · cases ad with
      | none => rfl
      | some x => obtain ⟨k0, off, spot⟩ := x; simp [Addr.add]
  · rename_i d _ ll
    obtain ⟨⟨_, h1, h2⟩, hk⟩ := hK
    obtain ⟨v, rfl, hr⟩ := hlo _ rfl
    simp only [Rel] at hr; subst hr
    obtain rfl := hhi' rfl
    obtain rfl := hmx' rfl
    obtain ⟨hG, hv⟩ := cont_view h h0 hcc hx
    have hv' := hv
    obtain ⟨⟨ad, cap, rfl, h3, h4, h5⟩, _⟩ := hv
    refine ⟨_, _, _, hk, fun _ => ⟨sliced ad ll.toNat d.len cap 1, w, g, ?_, hG, by simp only [Rel]; exact Vw.drop (by omega) hv'⟩⟩
    rw [run_sliceAt_slice w t _ _ _ _ hte, run_slice_l w t ad d.len cap hte _ ll h1 h2, hee, run_sizeOf' hti]
    simp only [Result.andThen_ok, hts]
  · rename_i d _ ll _ hh
    obtain ⟨⟨_, h1, h1', h2⟩, hk⟩ := hK
    obtain ⟨v, rfl, hr⟩ := hlo _ rfl
    simp only [Rel] at hr; subst hr
    obtain ⟨v, rfl, hr⟩ := hhi _ rfl
    simp only [Rel] at hr; subst hr
    obtain rfl := hmx' rfl
    obtain ⟨hG, hv⟩ := cont_view h h0 hcc hx
    have hv' := hv
    obtain ⟨⟨ad, cap, rfl, h3, h4, h5⟩, _⟩ := hv
    have e1 : (d.take hh.toNat).len = hh.toNat := by rw [SC.take_len]; omega
    have ht' : Vw w (Mut g (updsF bx (dies bx x))) C.F none (.slice ad (d.take hh.toNat).len cap) (d.take hh.toNat) := by
      rw [e1]; exact Vw.take (n := hh.toNat) (by omega) hv'
    have hd' := Vw.drop (n := ll.toNat) (by rw [e1]; omega) ht'
    rw [e1] at hd'
    refine ⟨_, _, _, hk, fun _ => ⟨sliced ad ll.toNat hh.toNat cap 1, w, g, ?_, hG, by simp only [Rel]; exact hd'⟩⟩
    rw [run_sliceAt_slice w t _ _ _ _ hte, run_slice_lh w t ad d.len cap hte _ _ ll hh h1 h1' (by omega), hee, run_sizeOf' hti]
    simp only [Result.andThen_ok, hts]
  · exact hK.elim

/-- A row goes on under another number, cut to its first part. -/
theorem Gam.recut (h : Gam C sl bx g a w) {b c n : Nat} {e : TypeId} {d : SC} (hb : bx b = .row e d) (hc : bx c = .none) (hn : n ≤ d.len) {ad : Option Addr} {cap : Nat} (hv : g.gh b d.len = some (.slice ad d.len cap)) :
    n ≤ cap ∧ Gam C sl (upd (upd bx b .gone) c (.row e (d.take n))) (g.setR c n (.slice ad n n)) a w := by
  have hbc : b ≠ c := fun e1 => by subst e1; rw [hb] at hc; cases hc
  have hbx := h.bxs b
  have hcx := h.bxs c
  rw [hb] at hbx
  rw [hc] at hcx
  obtain ⟨b1, b2, b3⟩ := hbx
  obtain ⟨c1, c2⟩ := hcx
  have hlen : (d.take n).len = n := by rw [SC.take_len]; omega
  have hle : g.le (g.setR c n (.slice ad n n)) := ⟨fun _ _ h => h, fun b' n' v hk => by
    by_cases e1 : b' = c
    · subst e1; rw [c2] at hk; cases hk
    · simp only [Gh.setR]; rw [upd_other _ _ e1]; exact hk⟩
  have other : ∀ b', b' ≠ b → b' ≠ c → ∀ k, AliveB (g.setR c n (.slice ad n n)) (upd (upd bx b .gone) c (.row e (d.take n))) b' k ↔ AliveB g bx b' k := by
    intro b' h1 h2 k
    unfold AliveB
    rw [upd_other _ _ h2, upd_other _ _ h1]
    cases bx b' <;> simp only [AliveX, Gh.setR]
    rw [upd_other _ _ h2]
  have atb : ∀ k, ¬ AliveB (g.setR c n (.slice ad n n)) (upd (upd bx b .gone) c (.row e (d.take n))) b k := by
    intro k hk
    unfold AliveB at hk
    rw [upd_other _ _ hbc, upd_same] at hk
    exact hk
  have atc : ∀ k, AliveB (g.setR c n (.slice ad n n)) (upd (upd bx b .gone) c (.row e (d.take n))) c k → AliveB g bx b k := by
    intro k hk
    unfold AliveB at hk ⊢
    rw [upd_same] at hk
    rw [hb]
    simp only [AliveX, hlen, Gh.setR, upd_same] at hk ⊢
    obtain ⟨_, hk⟩ := hk
    cases hk
    exact ⟨cap, hv⟩
  have hM : ∀ k, Mut (g.setR c n (.slice ad n n)) (upd (upd bx b .gone) c (.row e (d.take n))) k → Mut g bx k := by
    rintro k ⟨b', hb'⟩
    by_cases e1 : b' = c
    · subst e1; exact ⟨b, atc k hb'⟩
    · by_cases e2 : b' = b
      · subst e2; exact absurd hb' (atb k)
      · exact ⟨b', (other b' e2 e1 k).1 hb'⟩
  have hK : Keeps w (Mut g bx) C.F w (Mut (g.setR c n (.slice ad n n)) (upd (upd bx b .gone) c (.row e (d.take n)))) C.F := ⟨Nat.le_refl _, fun _ _ _ => rfl, fun k _ hm => hM k hm, fun _ _ _ h => h⟩
  have hncap : n ≤ cap := by
    rcases b3 with ⟨h0, hz⟩ | ⟨k, cap', cur, hv', hh, a1, a2, a3, a4, a5⟩
    · omega
    · rw [hv'] at hv; cases hv; omega
  refine ⟨hncap, h.step hK hle ⟨rfl, rfl, rfl, Nat.le_refl _, fun _ _ _ => rfl⟩ (fun b' => ?_) ?_ ?_⟩
  · by_cases e1 : b' = c
    · subst e1
      rw [upd_same]
      refine ⟨c1, fun n' hn' => ?_, ?_⟩
      · rw [hlen] at hn'
        simp only [Gh.setR, upd_same]
        rw [upd_other _ _ (by omega)]; exact c2 n'
      · rcases b3 with ⟨h0, hz⟩ | ⟨k, cap', cur, hv', hh, a1, a2, a3, a4, a5⟩
        · have hn0 : n = 0 := by omega
          subst hn0
          rw [h0, hz] at hv; cases hv
          exact .inl ⟨hlen, by simp [Gh.setR]⟩
        · rw [hv'] at hv; cases hv
          refine .inr ⟨k, n, cur, by rw [hlen]; simp [Gh.setR], hh, by omega, by omega, by omega, a4, fun i hi => ?_⟩
          rw [hlen] at hi
          obtain ⟨u, hu, he⟩ := a5 i (by omega)
          exact ⟨u, hu, SC.take_el hi (he.mono hK)⟩
    · rw [upd_other _ _ e1]
      by_cases e2 : b' = b
      · subst e2; rw [upd_same]; trivial
      · rw [upd_other _ _ e2]
        exact (h.bxs b').mono hK hle (fun _ h => h) (fun n' v hk => by simp only [Gh.setR] at hk; rw [upd_other _ _ e1] at hk; exact hk) (fun _ _ _ h => h) (fun _ _ _ => rfl)
  · intro x y k hx hy
    have key : ∀ x k, AliveB (g.setR c n (.slice ad n n)) (upd (upd bx b .gone) c (.row e (d.take n))) x k → (x = c ∧ AliveB g bx b k) ∨ (x ≠ c ∧ x ≠ b ∧ AliveB g bx x k) := by
      intro x k hx
      by_cases e1 : x = c
      · subst e1; exact .inl ⟨rfl, atc k hx⟩
      · by_cases e2 : x = b
        · subst e2; exact absurd hx (atb k)
        · exact .inr ⟨e1, e2, (other x e2 e1 k).1 hx⟩
    rcases key x k hx with ⟨e1, hx⟩ | ⟨e1, e2, hx⟩ <;> rcases key y k hy with ⟨f1, hy⟩ | ⟨f1, f2, hy⟩
    · rw [e1, f1]
    · exact absurd (h.excl _ _ _ hx hy).symm f2
    · exact absurd (h.excl _ _ _ hx hy) e2
    · exact h.excl _ _ _ hx hy
  · intro x k hx
    exact .inl (hM k ⟨x, hx⟩)

theorem slice3_val (h : Gam C sl bx g a w) {c : Nat} {t : TypeId} {x : AV} {lo hi mx : Option AV} (hK : aSlice3 c (slTy P t) x (bx x.blk) lo hi mx K) {vx : Value} (hx : Rel w (Mut g bx) C.F g C.args x vx)
    {vlo vhi vmx : Option Value} (hlo' : lo = none → vlo = none) (hhi : ∀ y, hi = some y → ∃ v, vhi = some v ∧ Rel w (Mut g bx) C.F g C.args y v)
    (hmx : ∀ y, mx = some y → ∃ v, vmx = some v ∧ Rel w (Mut g bx) C.F g C.args y v) : ValR P C sl bx g a w c K (Instr.sliceAt t vx vlo vhi vmx) := by
  generalize hst : slTy P t = st at hK
  generalize hb : bx x.blk = B at hK
  unfold aSlice3 at hK
  split at hK
  case h_2 => exact hK.elim
  rename_i _ hh _ mm
  split at hK
  case h_2 => exact hK.elim
  rename_i e c0 b n e' d
  obtain ⟨⟨rfl, rfl, h1, h2, rfl⟩, hk⟩ := hK
  obtain ⟨v, rfl, hr⟩ := hhi _ rfl
  simp only [Rel] at hr; subst hr
  obtain ⟨v, rfl, hr⟩ := hmx _ rfl
  simp only [Rel] at hr; subst hr
  obtain rfl := hlo' rfl
  obtain ⟨ht, h0, ti, z, hti, hts, _⟩ := slTy_spec hst
  have hte : P.underlying t = some (.slice (P.elem t)) := by rw [ht]; simp [Program.elem, ht]
  have hee : P.elem t = e' := by have := hte; rw [ht] at this; cases this; rfl
  simp only [Rel] at hx
  simp only [AV.blk] at hb
  obtain ⟨ad, cap, rfl⟩ := g.one _ _ _ hx
  refine ⟨_, _, _, hk, fun hnone => ?_⟩
  have hbc : bx c = .none := hnone _ (List.mem_cons_of_mem _ List.mem_cons_self) (Nat.le_refl _)
  obtain ⟨hcap, hG⟩ := h.recut (n := hh.toNat) hb hbc (by omega) hx
  refine ⟨.slice ad hh.toNat hh.toNat, w, _, ?_, hG, by simp only [Rel, Gh.setR, upd_same]⟩
  rw [run_sliceAt_slice w t _ _ _ _ hte, run_slice_hm w t ad d.len cap hte _ _ hh hh h1 (Int.le_refl _) (by omega), hee, run_sizeOf' hti]
  simp only [Result.andThen_ok, sliced, Nat.zero_mul, Nat.sub_zero]
  congr 2
  split
  · rfl
  · cases ad with
    | none => rfl
    | some x => obtain ⟨k0, off, spot⟩ := x; simp [Addr.add]
/-- A part of a string. -/
theorem cut_val (h : Gam C sl bx g a w) {c : Nat} {t : TypeId} {x : AV} {lo hi mx : Option AV} {E : Prop} (hK : aCut x (P.underlying t) lo hi K E) {vx : Value} (hx : Rel w (Mut g bx) C.F g C.args x vx)
    {vlo vhi vmx : Option Value} (hlo : ∀ y, lo = some y → ∃ v, vlo = some v ∧ Rel w (Mut g bx) C.F g C.args y v) (hlo' : lo = none → vlo = none)
    (hhi : ∀ y, hi = some y → ∃ v, vhi = some v ∧ Rel w (Mut g bx) C.F g C.args y v) (hhi' : hi = none → vhi = none) (hmx' : mx = none → vmx = none) (hmx : mx = none) : E ∨ ValR P C sl bx g a w c K (Instr.sliceAt t vx vlo vhi vmx) := by
  generalize hu : P.underlying t = u at hK
  unfold aCut at hK
  split at hK
  · rename_i s _ hh
    obtain ⟨⟨h1, h2⟩, hk⟩ := hK
    obtain ⟨v, rfl, hr⟩ := hhi _ rfl
    simp only [Rel] at hr hx; subst hr hx
    obtain rfl := hlo' rfl
    obtain rfl := hmx' hmx
    exact .inr (.same h hk (u := .string (s.extract 0 hh.toNat)) (by simp only [Rel]) (by rw [run_sliceAt_string w t _ _ _ _ hu, run_slice_string_to_if w t s _ hh hu, if_pos ⟨h1, h2⟩]))
  · rename_i s _ ll
    obtain ⟨⟨h1, h2⟩, hk⟩ := hK
    obtain ⟨v, rfl, hr⟩ := hlo _ rfl
    simp only [Rel] at hr hx; subst hr hx
    obtain rfl := hhi' rfl
    obtain rfl := hmx' hmx
    exact .inr (.same h hk (u := .string (s.extract ll.toNat s.size)) (by simp only [Rel]) (by rw [run_sliceAt_string w t _ _ _ _ hu, run_slice_string_from_if w t s _ ll hu, if_pos ⟨h1, h2⟩]))
  · rename_i s _ ll _ hh
    obtain ⟨⟨h1, h1', h2⟩, hk⟩ := hK
    obtain ⟨v, rfl, hr⟩ := hlo _ rfl
    simp only [Rel] at hr hx; subst hr hx
    obtain ⟨v, rfl, hr⟩ := hhi _ rfl
    simp only [Rel] at hr; subst hr
    obtain rfl := hmx' hmx
    exact .inr (.same h hk (u := .string (s.extract ll.toNat hh.toNat)) (by simp only [Rel]) (by rw [run_sliceAt_string w t _ _ _ _ hu, run_slice_string w t s _ _ ll hh hu h1 h1' h2]))
  · exact hK.elim
  · exact .inl hK

/-- A byte of a string. -/
theorem index_val (h : Gam C sl bx g a w) {c : Nat} {t : TypeId} {x i : AV} (hK : aIndex (P.underlying t) x i K) {vx vi : Value} (hx : Rel w (Mut g bx) C.F g C.args x vx) (hi : Rel w (Mut g bx) C.F g C.args i vi) :
    ValR P C sl bx g a w c K (Instr.index t vx vi) := by
  generalize hu : P.underlying t = u at hK
  unfold aIndex at hK
  split at hK
  · rename_i s k n
    obtain ⟨⟨h1, h2⟩, hk⟩ := hK
    simp only [Rel] at hx hi; subst hx hi
    refine .same h hk (u := .int .u8 (sGet s n.toNat)) (by simp only [Rel]) ?_
    rw [run_index_string w t s k n hu, dif_pos ⟨h1, h2⟩]
    have hn : n.toNat < s.data.size := by have : s.size = s.data.size := rfl; omega
    have e : s[n.toNat]'(by omega) = s.data.getD n.toNat 0 := by
      rw [Array.getD_eq_getD_getElem?, Array.getElem?_eq_getElem hn]; rfl
    rw [e]; rfl
  · exact hK.elim

theorem slTy_int {P : Program} {t e : TypeId} {k : IntKind} {xs : List Int} (h : slTy P t = some (e, .ints k xs)) : P.underlying e = some (.int k) := by
  unfold slTy at h
  split at h
  · split at h
    · split at h
      · rename_i hu
        split at h
        · cases h; exact hu
        · cases h
      · cases h
      · cases h
      · cases h
    · cases h
  · cases h

/-- Bytes become a string. -/
theorem convS_val (h : Gam C sl bx g a w) {c : Nat} {t u : TypeId} {x : AV} (hK : aConvS (slTy P t) x.bid (cont (SC0 (slTy P t)) bx x) x (P.underlying t) (P.underlying u) K) {vx : Value} (hx : Rel w (Mut g bx) C.F g C.args x vx) :
    ValR P C sl bx g a w c K (convert t u vx) := by
  by_cases hu : P.underlying u = some .string
  · rw [hu] at hK
    simp only [aConvS] at hK
    generalize hst : slTy P t = st at hK
    generalize hcc : cont (SC0 st) bx x = oc at hK
    unfold aToStr at hK
    split at hK
    · rename_i e zs xs
      obtain ⟨ht, h0, _⟩ := slTy_spec hst
      obtain ⟨ad, cap, us, rfl, hl, h1, h2, h3⟩ := cont_cells h h0 hcc hx
      have hlen : (SC.ints .u8 xs).len = xs.length := rfl
      rw [hlen] at hl h1
      refine .same h hK (u := .string (strOfNums xs)) (by simp only [Rel]) ?_
      rw [hlen]
      by_cases hx0 : xs.length = 0
      · have hxs : xs = [] := List.length_eq_zero_iff.1 hx0
        subst hxs
        cases ad with
        | none => exact run_convert_bytes_nil w t e ht (slTy_int hst) _ _ u hu
        | some ad =>
          rw [run_convert_bytes_string w t u e _ _ _ ht (slTy_int hst) hu, List.length_nil, run_bytesToString w ad 0 cap [] (by simpa using run_loadCells_list (P := P) w ad [] (fun j v hj => by simp at hj))]
          rfl
      · have hu0 : us[0]? = some _ := List.getElem?_eq_getElem (by omega)
        obtain ⟨x0, rfl, hs, _, _⟩ := h3 0 _ hu0
        obtain ⟨k0, off, spot⟩ := x0
        simp only at hs; subst hs
        refine run_convert_bytes_arg w t e ht (slTy_int hst) k0 off xs.length cap xs rfl (fun i hi => ?_) u hu
        have hui : us[i]? = some _ := List.getElem?_eq_getElem (by omega)
        obtain ⟨x1, hx1, _, hc, he⟩ := h3 i _ hui
        cases hx1
        rw [hc]
        simp only [ElR] at he
        rw [he]
    · exact hK.elim
  · have hK' : aConv x (P.underlying t) (P.underlying u) K := by
      generalize P.underlying u = y at hK hu
      unfold aConvS at hK
      split at hK
      · exact absurd rfl hu
      · exact hK
    exact .pure h (conv_sim t u x hK' hx)

end

end AM
end Go.Proofs.YtbookhehpebcmaaGreatDoor
