/-
  An abstract machine over the kit's Code.wp, and its soundness: part 8, one operation, simulated.
-/
import Derived.Test.YtbookhehpebcmaaGreatDoorA7
namespace Go.Proofs.YtbookhehpebcmaaGreatDoor
namespace AM
set_option linter.unusedVariables false
set_option linter.unusedSimpArgs false

section
variable {P : Program} {C : Cx} {sl : Nat → AV} {bx : Nat → Bx} {g : Gh} {a : Act} {w : World} {K : Kt}

/-- What a run of an operation that hands back a value comes to. -/
def ValR (P : Program) (C : Cx) (sl : Nat → AV) (bx : Nat → Bx) (g : Gh) (a : Act) (w : World) (c : Nat) (K : Kt) (s : Sem Value) : Prop :=
  ∃ v us ac, K v us ac ∧ ((∀ p ∈ us, c ≤ p.1 → bx p.1 = .none) → ∃ u w' g', s.run P w = .ok u w' ∧ Gam C sl (updsF bx us) g' a w' ∧ Rel w' (Mut g' (updsF bx us)) C.F g' C.args v u)

theorem ValR.pure (h : Gam C sl bx g a w) {c : Nat} {s : Sem Value} (hp : PureR P w (Mut g bx) C.F g C.args K s) : ValR P C sl bx g a w c K s :=
  let ⟨v, u, hk, hr, hs⟩ := hp
  ⟨v, [], [], hk, fun _ => ⟨u, w, g, hs, h, hr⟩⟩

theorem ValR.same (h : Gam C sl bx g a w) {c : Nat} {s : Sem Value} {v : AV} {u : Value} {ac : List Nat} (hk : K v [] ac) (hr : Rel w (Mut g bx) C.F g C.args v u) (hs : s.run P w = .ok u w) : ValR P C sl bx g a w c K s :=
  ⟨v, [], ac, hk, fun _ => ⟨u, w, g, hs, h, hr⟩⟩

theorem load_val (h : Gam C sl bx g a w) {c : Nat} {t : TypeId} {x : AV} (hK : aLoad (tyOf P t) x (bx x.blk) K) {vx : Value} (hx : Rel w (Mut g bx) C.F g C.args x vx) :
    ValR P C sl bx g a w c K (Instr.loadAt t vx) :=
  let ⟨v, u, ac, hk, hr, hs⟩ := load_sim h hK hx
  .same h hk hr hs

/-! ### A row's operand, read as a slice -/

theorem ElR.oneCell {M F : Nat → Prop} {c : SC} {i : Nat} {u : Value} (h : ElR w M F c i u) : u.oneCell' = true := by
  cases c <;> simp only [ElR] at h
  · subst h; rfl
  · obtain ⟨⟨_, _, rfl, _⟩, _⟩ := h; rfl
  · subst h; rfl

/-- A slice's cells, in a world. -/
def Cells (w : World) (M F : Nat → Prop) (c : SC) (v : Value) : Prop :=
  ∃ (ad : Option Addr) (cap : Nat) (us : List Value), v = .slice ad c.len cap ∧ us.length = c.len ∧ c.len ≤ cap ∧ cap ≤ maxLen ∧ (∀ (i : Nat) (u : Value), us[i]? = some u → ∃ x, ad = some x ∧ x.spot = none ∧ w.cell? ⟨x.block, x.off + i, none⟩ = some u ∧ ElR w M F c i u)

theorem exists_list {p : Nat → Value → Prop} : ∀ (n : Nat), (∀ i, i < n → ∃ u, p i u) → ∃ us : List Value, us.length = n ∧ ∀ i u, us[i]? = some u → p i u
  | 0, _ => ⟨[], rfl, by simp⟩
  | n + 1, h => by
    obtain ⟨us, hl, hu⟩ := exists_list n fun i hi => h i (by omega)
    obtain ⟨u, hp⟩ := h n (by omega)
    refine ⟨us ++ [u], by simp [hl], fun i x hx => ?_⟩
    rw [List.getElem?_append] at hx
    split at hx
    · exact hu i x hx
    · rename_i hge
      have hi : i = n := by
        by_cases e : i - us.length = 0
        · omega
        · rw [List.getElem?_singleton, if_neg e] at hx; cases hx
      subst hi
      rw [hl, Nat.sub_self] at hx
      simp at hx; subst hx; exact hp

theorem Vw.cells {M F : Nat → Prop} {fr : Option TypeId} {v : Value} {c : SC} (h : Vw w M F fr v c) : Cells w M F c v := by
  obtain ⟨⟨ad, cap, rfl, h1, h2, h3⟩, _⟩ := h
  obtain ⟨us, hl, hu⟩ := exists_list c.len h3
  refine ⟨ad, cap, us, rfl, hl, h1, h2, fun i u hi => ?_⟩
  obtain ⟨⟨x, hx, hs, _, hc⟩, he⟩ := hu i u hi
  exact ⟨x, hx, hs, hc, he⟩

theorem row_cells {M F : Nat → Prop} {args : List Value} {b : Nat} {e : TypeId} {c : SC} {v : Value} (h : BxR w M F g args b (.row e c)) (hv : g.gh b c.len = some v) : Cells w M F c v := by
  obtain ⟨_, _, h3⟩ := h
  rcases h3 with ⟨h0, hn⟩ | ⟨k, cap, cur, hk, hh, a1, a2, a3, a4, a5⟩
  · rw [h0, hn] at hv; cases hv
    exact ⟨none, 0, [], by rw [h0], by rw [h0]; rfl, by rw [h0]; exact Nat.le_refl _, Nat.zero_le _, by simp⟩
  · rw [hk] at hv; cases hv
    obtain ⟨us, hl, hu⟩ := exists_list (p := fun i u => cur[i]? = some u ∧ ElR w M F c i u) c.len a5
    refine ⟨some ⟨k, 0, none⟩, cap, us, rfl, hl, a2, a3, fun i u hi => ⟨⟨k, 0, none⟩, rfl, rfl, ?_, (hu i u hi).2⟩⟩
    rw [Nat.zero_add, cell_of_row w k i cur e (0, 0) hh]; exact (hu i u hi).1

theorem cont_cells (h : Gam C sl bx g a w) {c0 d : SC} (h0 : c0.len = 0) {y : AV} (hc : cont c0 bx y = some d) {v : Value} (hy : Rel w (Mut g bx) C.F g C.args y v) : Cells w (Mut g bx) C.F d v := by
  cases y <;> simp only [cont, Option.some.injEq, reduceCtorEq] at hc
  case nil => subst hc; simp only [Rel] at hy; subst hy; exact ⟨none, 0, [], by rw [h0], by rw [h0]; rfl, by rw [h0]; exact Nat.le_refl _, Nat.zero_le _, by simp⟩
  case sl fr c => subst hc; simp only [Rel] at hy; exact hy.cells
  case prm k c => subst hc; simp only [Rel] at hy; exact hy.1.cells
  case ref b n =>
    simp only [Rel] at hy
    have hbx := h.bxs b
    split at hc
    · rename_i e c hb
      split at hc
      · rename_i hl; cases hc; subst hl; rw [hb] at hbx; exact row_cells hbx hy
      · cases hc
    · rename_i e c hb
      split at hc
      · rename_i hl; cases hc; subst hl; rw [hb] at hbx
        obtain ⟨_, _, v', hv, hw⟩ := hbx
        rw [hv] at hy; cases hy; exact hw.cells
      · cases hc
    · cases hc

theorem app_el {x d x' : SC} (h : x.app d = some x') : x'.len = x.len + d.len ∧ ∀ (w : World) (M F : Nat → Prop), (∀ i u, i < x.len → ElR w M F x i u → ElR w M F x' i u) ∧ (∀ i u, i < d.len → ElR w M F d i u → ElR w M F x' (x.len + i) u) := by
  have hmeet : ∀ {w : World} {M F : Nat → Prop} {f g : Option TypeId} {v : Value}, (Shapes w M F v f → Shapes w M F v (meet f g)) ∧ (Shapes w M F v g → Shapes w M F v (meet f g)) := by
    intro w M F f g v
    cases f <;> cases g <;> simp only [meet, Shapes, implies_true, and_self]
    rename_i e1 e2
    by_cases e : e1 = e2
    · subst e; simp only [if_true]; exact ⟨id, id⟩
    · simp only [if_neg e]; exact ⟨fun _ => trivial, fun _ => trivial⟩
  cases x <;> cases d <;> simp only [SC.app, reduceCtorEq] at h
  · rename_i k xs k' ys
    split at h
    · rename_i e; subst e; cases h
      refine ⟨by simp [SC.len], fun w M F => ⟨fun i u hi he => ?_, fun i u hi he => ?_⟩⟩ <;> simp only [ElR, SC.len] at *
      · rw [he]; simp [List.getD, List.getElem?_append_left hi]
      · rw [he]; simp [List.getD, List.getElem?_append_right]
    · cases h
  · rename_i f xss f' yss
    cases h
    refine ⟨by simp [SC.len], fun w M F => ⟨fun i u hi he => ?_, fun i u hi he => ?_⟩⟩ <;> simp only [ElR, SC.len] at *
    · have e : (xss ++ yss).getD i [] = xss.getD i [] := by simp [List.getD, List.getElem?_append_left hi]
      rw [e]; exact ⟨he.1, hmeet.1 he.2⟩
    · have e : (xss ++ yss).getD (xss.length + i) [] = yss.getD i [] := by simp [List.getD, List.getElem?_append_right]
      rw [e]; exact ⟨he.1, hmeet.2 he.2⟩
  · rename_i ss ts
    cases h
    refine ⟨by simp [SC.len], fun w M F => ⟨fun i u hi he => ?_, fun i u hi he => ?_⟩⟩ <;> simp only [ElR, SC.len] at *
    · rw [he]; simp [List.getD, List.getElem?_append_left hi]
    · rw [he]; simp [List.getD, List.getElem?_append_right]

/-! ### append -/

/-- A row's content is said anew. -/
theorem Gam.sameRow (h : Gam C sl bx g a w) {b : Nat} {e : TypeId} {c c' : SC} (hb : bx b = .row e c) (hl : c'.len = c.len) (he : ∀ w M F i u, i < c.len → ElR w M F c i u → ElR w M F c' i u) : Gam C sl (upd bx b (.row e c')) g a w := by
  have hbx := h.bxs b
  rw [hb] at hbx
  have hal : ∀ k', AliveX g b (.row e c') k' → AliveB g bx b k' := fun k' hk' => by unfold AliveB; rw [hb]; simp only [AliveX, hl] at hk' ⊢; exact hk'
  have hM : ∀ k', Mut g (upd bx b (.row e c')) k' → Mut g bx k' := by
    rintro k' ⟨b', hb'⟩
    by_cases e : b' = b
    · subst e; unfold AliveB at hb'; rw [upd_same] at hb'; exact ⟨b', hal k' hb'⟩
    · unfold AliveB at hb'; rw [upd_other _ _ e] at hb'; exact ⟨b', hb'⟩
  have hK : Keeps w (Mut g bx) C.F w (Mut g (upd bx b (.row e c'))) C.F := ⟨Nat.le_refl _, fun _ _ _ => rfl, fun k' _ hm => hM k' hm, fun _ _ _ h => h⟩
  refine h.one b _ g.le_refl (fun _ _ => ⟨rfl, fun _ => rfl⟩) (fun _ _ _ => rfl) rfl rfl rfl (Nat.le_refl _) ?_ (fun k' hk' => .inl (hal k' hk'))
  obtain ⟨h1, h2, h3⟩ := hbx
  refine ⟨h1, fun n hn => h2 n (by omega), ?_⟩
  rcases h3 with ⟨h0, hn⟩ | ⟨k', cap', cur2, hv, hh', a1, a2, a3, a4, a5⟩
  · exact .inl ⟨by omega, hn⟩
  · refine .inr ⟨k', cap', cur2, by rw [hl]; exact hv, hh', a1, by omega, a3, a4, fun i hi => ?_⟩
    obtain ⟨u, hu, hr⟩ := a5 i (by omega)
    exact ⟨u, hu, (he _ _ _ _ _ (by omega) hr).mono hK⟩

/-- A new row that is still nil. -/
theorem Gam.newNil (h : Gam C sl bx g a w) {b : Nat} (hb : bx b = .none) (e : TypeId) {c : SC} (hl : c.len = 0) : Gam C sl (upd bx b (.row e c)) (g.setR b 0 (.slice none 0 0)) a w := by
  have hbx := h.bxs b
  rw [hb] at hbx
  obtain ⟨b1, b2⟩ := hbx
  have hle : g.le (g.setR b 0 (.slice none 0 0)) := ⟨fun _ _ h => h, fun b' n v hk => by
    by_cases e : b' = b
    · subst e; rw [b2] at hk; cases hk
    · simp only [Gh.setR]; rw [upd_other _ _ e]; exact hk⟩
  have hal : ∀ k, ¬ AliveX (g.setR b 0 (.slice none 0 0)) b (.row e c) k := fun k hk => by
    simp only [AliveX, Gh.setR, upd_same, hl] at hk; obtain ⟨_, hk⟩ := hk; cases hk
  refine h.one b _ hle (fun b' e => ⟨rfl, fun n => by simp only [Gh.setR]; rw [upd_other _ _ e]⟩) (fun _ _ _ => rfl) rfl rfl rfl (Nat.le_refl _) ?_ (fun k hk => absurd hk (hal k))
  refine ⟨b1, fun n hn => ?_, .inl ⟨hl, by simp [Gh.setR]⟩⟩
  simp only [Gh.setR, upd_same]
  rw [upd_other _ _ (by omega)]; exact b2 n

theorem run_append_zero {t ty e : TypeId} {i : TypeInfo} (ht : P.underlying t = some (.slice e)) (hi : P.info? e = some i) (base ad : Option Addr) (n cap c : Nat) (hn : n ≤ cap) :
    (Builtin.append_ #[t, t] ty #[.slice base n cap, .slice ad 0 c]).run P w = .ok (.slice base n cap) w := by
  cases base <;> cases ad <;> simp [Builtin.append_, run_underlying ht, sizeOf, typeInfo, hi, Builtin.lenOf, hn, Builtin.firstCells, loadCells, loadCellsFrom, storeCells]

theorem front {us : List Value} {zs : Array Value} {i : Nat} (h : i < us.length) : (us.toArray ++ zs)[i]? = us[i]? := by
  rw [Array.getElem?_append_left (by simpa using h)]; simp

theorem cells_get {M F : Nat → Prop} {d : SC} {ad : Option Addr} {us : List Value} (hl : us.length = d.len) (h : ∀ (i : Nat) (u : Value), us[i]? = some u → ∃ x, ad = some x ∧ x.spot = none ∧ w.cell? ⟨x.block, x.off + i, none⟩ = some u ∧ ElR w M F d i u) :
    (∀ i, i < d.len → ∃ u, us[i]? = some u ∧ ElR w M F d i u) ∧ (∀ u ∈ us, u.oneCell' = true) ∧ (0 < d.len → ∃ x, ad = some x ∧ ∀ j u, us[j]? = some u → w.cell? (x.add j) = some u) := by
  refine ⟨fun i hi => ?_, fun u hu => ?_, fun h0 => ?_⟩
  · have hu : us[i]? = some _ := List.getElem?_eq_getElem (by omega)
    obtain ⟨_, _, _, _, he⟩ := h i _ hu
    exact ⟨_, hu, he⟩
  · obtain ⟨i, hi⟩ := List.mem_iff_getElem?.1 hu
    obtain ⟨_, _, _, _, he⟩ := h i u hi
    exact he.oneCell
  · have hu : us[0]? = some _ := List.getElem?_eq_getElem (by omega)
    obtain ⟨x, hx, hs, _, _⟩ := h 0 _ hu
    refine ⟨x, hx, fun j u hj => ?_⟩
    obtain ⟨x', hx', _, hc, _⟩ := h j u hj
    rw [hx] at hx'; cases hx'
    obtain ⟨blk, off, spot⟩ := x
    simp only at hs; subst hs
    rw [add_none]; exact hc

theorem append_val (h : Gam C sl bx g a w) {c : Nat} {ac : List Nat} {ts : Array TypeId} {ty : TypeId} {x y : AV} (hK : aAppend c ac (slTy2 P ts.toList) x (bx x.blk) (cont (SC0 (slTy2 P ts.toList)) bx y) K)
    {vx vy : Value} (hx : Rel w (Mut g bx) C.F g C.args x vx) (hy : Rel w (Mut g bx) C.F g C.args y vy) : ValR P C sl bx g a w c K (Builtin.append_ ts ty #[vx, vy]) := by
  generalize hst : slTy2 P ts.toList = st at hK
  generalize hb : bx x.blk = B at hK
  generalize hd : cont (SC0 st) bx y = od at hK
  unfold aAppend at hK
  split at hK
  · -- nil
    rename_i e c0 d
    obtain ⟨t, hts, hsl⟩ := slTy2_spec hst
    obtain rfl : ts = #[t, t] := by cases ts; simpa using hts
    obtain ⟨ht, h0, i, z, hi, hs, hby, hz, hz1, _⟩ := slTy_spec hsl
    simp only [Rel] at hx; subst hx
    obtain ⟨ad, cap, us, rfl, hl, h1, h2, hu⟩ := cont_cells h h0 hd hy
    obtain ⟨hg, h1c, hne⟩ := cells_get hl hu
    obtain ⟨hlen, hk⟩ := hK
    refine ⟨_, _, _, hk, fun hn => ?_⟩
    have hbc : bx c = .none := hn _ List.mem_cons_self (Nat.le_refl _)
    by_cases hm : d.len = 0
    · refine ⟨.slice none 0 0, w, _, ?_, h.newNil hbc e hm, ?_⟩
      · rw [hm]; exact run_append_zero ht hi none ad 0 0 cap (Nat.le_refl _)
      · simp only [Rel, hm, Gh.setR, upd_same]
    · obtain ⟨x, rfl, hcell⟩ := hne (by omega)
      have hsz : us.length = d.len * i.size := by rw [hs, hl, Nat.mul_one]
      have h48 : d.len * i.bytes ≤ 281474976710656 := Nat.le_trans (Nat.mul_le_mul hlen hby) (by decide)
      have hr := run_append_nil (P := P) w t ty e i z ht hi hz x d.len cap us hsz hcell (by omega) (by omega) h48
      have hcapm : grownCap w d.len 0 e ≤ maxLen := grownCap_le_maxLen w d.len 0 e (by unfold maxLen; omega)
      have hge := grownCap_ge w d.len 0 e
      refine ⟨_, _, _, hr, Gam.newRow h.drew hbc d (grownCap w d.len 0 e) _ e hge ?_ hcapm (fun i hi => ?_), ?_⟩
      · have : z.cells.size = 1 := by cases z <;> first | rfl | cases hz1
        simp only [Array.size_append, List.size_toArray, size_zeroCells, this, hl]; omega
      · obtain ⟨u, hu1, he⟩ := hg i hi
        exact ⟨u, by rw [front (by omega)]; exact hu1, he⟩
      · simp only [Rel, Gh.setR, upd_same]; rfl
  · -- a row
    rename_i e c0 b n e' x0 d
    generalize hx' : x0.app d = ox at hK
    unfold aApp at hK
    split at hK
    case h_2 => exact hK.elim
    rename_i x'
    obtain ⟨⟨rfl, rfl, hlen⟩, hk⟩ := hK
    obtain ⟨t, hts, hsl⟩ := slTy2_spec hst
    obtain rfl : ts = #[t, t] := by cases ts; simpa using hts
    obtain ⟨ht, h0, i, z, hi, hs, hby, hz, hz1, _⟩ := slTy_spec hsl
    simp only [AV.blk] at hb
    simp only [Rel] at hx
    obtain ⟨ad, cap, us, rfl, hl, h1, h2, hu⟩ := cont_cells h h0 hd hy
    obtain ⟨hg, h1c, hne⟩ := cells_get hl hu
    obtain ⟨hxl, hxe⟩ := app_el hx'
    have hbx := h.bxs b
    rw [hb] at hbx
    refine ⟨_, _, _, hk, fun hn => ?_⟩
    by_cases hm : d.len = 0
    · have hsame := Gam.sameRow h hb (c' := x') (by omega) (fun w M F i u hi he => (hxe w M F).1 i u hi he)
      refine ⟨vx, w, g, ?_, hsame, by simp only [Rel, hm, Nat.add_zero]; exact hx⟩
      obtain ⟨_, _, h3⟩ := hbx
      rcases h3 with ⟨hz0, hnn⟩ | ⟨k, cap', cur, hv, hh, a1, a2, a3, a4, a5⟩
      · rw [hz0, hnn] at hx; cases hx; rw [hm]; exact run_append_zero ht hi none ad 0 0 cap (Nat.le_refl _)
      · rw [hv] at hx; cases hx; rw [hm]; exact run_append_zero ht hi _ ad _ _ cap a2
    · obtain ⟨x, rfl, hcell⟩ := hne (by omega)
      have hsz : us.length = d.len * i.size := by rw [hs, hl, Nat.mul_one]
      have hbytes : (x0.len + d.len) * i.bytes ≤ 140737488355328 := Nat.le_trans (Nat.mul_le_mul hlen hby) (by decide)
      have hzc : z.cells.size = 1 := by cases z <;> first | rfl | cases hz1
      obtain ⟨_, _, h3⟩ := hbx
      rcases h3 with ⟨hz0, hnn⟩ | ⟨k, cap', cur, hv, hh, a1, a2, a3, a4, a5⟩
      · rw [hz0, hnn] at hx; cases hx
        have h48 : d.len * i.bytes ≤ 281474976710656 := by rw [hz0, Nat.zero_add] at hbytes; omega
        have hr := run_append_nil (P := P) w t ty e' i z ht hi hz x d.len cap us hsz hcell (by omega) (by omega) h48
        have hcapm : grownCap w d.len 0 e' ≤ maxLen := grownCap_le_maxLen w d.len 0 e' (by unfold maxLen; omega)
        have hge := grownCap_ge w d.len 0 e'
        have hG := Gam.growOut (c' := x') (cap := grownCap w d.len 0 e') (cur' := us.toArray ++ Builtin.zeroCells z.cells (grownCap w d.len 0 e' - d.len)) (e := e') h.drew hb (by omega) (by omega)
          (by simp only [Array.size_append, List.size_toArray, size_zeroCells, hzc, hl]; omega) hcapm (fun i hi => by
            obtain ⟨u, hu1, he⟩ := hg i (by omega)
            exact ⟨u, by rw [front (by omega)]; exact hu1, by have := (hxe w.drew (Mut g bx) C.F).2 i u (by omega) he; rw [hz0, Nat.zero_add] at this; exact this⟩)
        refine ⟨_, _, _, hr, hG, ?_⟩
        have e1 : x'.len = d.len := by omega
        simp only [Rel, Gh.setR, hz0, Nat.zero_add, e1, upd_same]; rfl
      · rw [hv] at hx; cases hx
        by_cases hroom : x0.len + d.len ≤ cap'
        · have hr := run_append_room (P := P) w t ty e' i ht hi k x0.len cap' cur hh x d.len cap us hsz hcell h1c hroom (by rw [hs, hl]; omega)
          rw [hs, Nat.mul_one] at hr
          have hG := Gam.growIn (c' := x') (cur' := (cur.toList.take x0.len ++ us ++ cur.toList.drop (x0.len + us.length)).toArray) h hb hv hh (by omega) (by omega)
            (by simp only [List.size_toArray, List.length_append, List.length_take, List.length_drop, Array.length_toList]; omega) (fun i hi => by
              by_cases hlt : i < x0.len
              · obtain ⟨u, hu1, he⟩ := a5 i hlt
                refine ⟨u, ?_, (hxe _ _ _).1 i u hlt he⟩
                simp only [List.append_assoc, List.getElem?_toArray]
                rw [List.getElem?_append_left (by simp; omega), List.getElem?_take, if_pos hlt]; simpa using hu1
              · obtain ⟨u, hu1, he⟩ := hg (i - x0.len) (by omega)
                refine ⟨u, ?_, by have := (hxe w (Mut g bx) C.F).2 (i - x0.len) u (by omega) he; rwa [show x0.len + (i - x0.len) = i from by omega] at this⟩
                simp only [List.append_assoc, List.getElem?_toArray]
                rw [List.getElem?_append_right (by simp; omega), List.getElem?_append_left (by simp; omega)]
                simp only [List.length_take, Array.length_toList, show min x0.len cur.size = x0.len from by omega]; exact hu1)
          refine ⟨_, _, _, hr, hG, ?_⟩
          simp only [Rel, Gh.setR, hxl, upd_same]
        · have hholds : ∀ j v, ((cur.toList.take x0.len)[j]? = some v) → w.cell? ((⟨k, 0, none⟩ : Addr).add j) = some v := fun j v hj => by
            rw [add_none, Nat.zero_add, cell_of_row w k j cur e' (0, 0) hh]
            rw [List.getElem?_take] at hj
            split at hj
            · simpa using hj
            · cases hj
          have hlo : (cur.toList.take x0.len).length = x0.len * i.size := by rw [hs]; simp; omega
          have hr := run_append_grow (P := P) w t ty e' i z ht hi hz ⟨k, 0, none⟩ x0.len cap' (cur.toList.take x0.len) hlo hholds x d.len cap us hsz hcell (by omega) (by omega) (growslice_fits (by omega) hbytes)
          have hcapm : grownCap w (x0.len + d.len) cap' e' ≤ maxLen := grownCap_le_maxLen w _ cap' e' (by unfold maxLen; omega)
          have hge := grownCap_ge w (x0.len + d.len) cap' e'
          have hG := Gam.growOut (c' := x') (cap := grownCap w (x0.len + d.len) cap' e') (cur' := (cur.toList.take x0.len).toArray ++ us.toArray ++ Builtin.zeroCells z.cells (grownCap w (x0.len + d.len) cap' e' - (x0.len + d.len))) (e := e') h.drew hb (by omega) (by omega)
            (by simp only [Array.size_append, List.size_toArray, size_zeroCells, hzc, hl, List.length_take, Array.length_toList]; omega) hcapm (fun i hi => by
              rw [Array.append_assoc]
              by_cases hlt : i < x0.len
              · obtain ⟨u, hu1, he⟩ := a5 i hlt
                refine ⟨u, ?_, (hxe _ _ _).1 i u hlt he⟩
                rw [front (by simp; omega), List.getElem?_take, if_pos hlt]; simpa using hu1
              · obtain ⟨u, hu1, he⟩ := hg (i - x0.len) (by omega)
                refine ⟨u, ?_, by have := (hxe w.drew (Mut g bx) C.F).2 (i - x0.len) u (by omega) he; rwa [show x0.len + (i - x0.len) = i from by omega] at this⟩
                rw [Array.getElem?_append_right (by simp; omega)]
                rw [front (by simp; omega)]
                simp only [List.size_toArray, List.length_take, Array.length_toList, show min x0.len cur.size = x0.len from by omega]; exact hu1)
          refine ⟨_, _, _, hr, hG, ?_⟩
          simp only [Rel, Gh.setR, hxl, upd_same]; rfl
  · exact hK.elim

end

end AM
end Go.Proofs.YtbookhehpebcmaaGreatDoor
