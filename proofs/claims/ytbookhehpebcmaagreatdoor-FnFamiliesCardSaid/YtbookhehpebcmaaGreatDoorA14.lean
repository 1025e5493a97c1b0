/-
  An abstract machine over the kit's Code.wp, and its soundness: part 14, a call by its contract.
-/
import Derived.Test.YtbookhehpebcmaaGreatDoorA13
namespace Go.Proofs.YtbookhehpebcmaaGreatDoor
namespace AM
set_option linter.unusedVariables false
set_option linter.unusedSimpArgs false

theorem lendDies_spec {bx : Nat → Bx} {x : Bx} {p : Nat × Bx} (h : p ∈ lendDies bx x) : ∃ e c, p.2 = .drow e c ∧ bx p.1 = .row e c := by
  unfold lendDies at h
  split at h
  · obtain ⟨q, hq, hp⟩ := List.mem_flatMap.1 h
    exact dies_spec hp
  · simp at h

theorem inv_mp {sel : List Nat} {c m i : Nat} (hinj : ∀ i j, mp sel c i = mp sel c j → i = j) (hi : i < m) : inv sel c m (mp sel c i) = some i := by
  cases h : inv sel c m (mp sel c i) with
  | none => exact absurd rfl (inv_none h i hi)
  | some j => have := inv_some h; rw [hinj _ _ this.2]

section
variable {P : Program} {C : Cx} {sl : Nat → AV} {bx : Nat → Bx} {g : Gh} {a : Act} {w : World} {K : Kt}

theorem C_fresh_of (h : Gam C sl bx g a w) (k : Nat) (hk : w.heap.size ≤ k) : C.F k := h.fresh k (Nat.le_trans h.fr.size hk)

theorem lentc_rel (h : Gam C sl bx g a w) {sel : List Nat} : ∀ (s : List Nat) (i0 : Nat), (∀ j b, s[j]? = some b → sel[i0 + j]? = some b) →
    RelL w (Mut g bx) C.F g C.args (s.flatMap fun b => bxCells (bx b)) (cellsAt w (subGh g sel) i0 (s.map fun b => lend bx (bx b)))
  | [], i0, _ => by simp [cellsAt, RelL]
  | b :: r, i0, hs => by
    have ih := lentc_rel h r (i0 + 1) fun j b hj => by
      have := hs (j + 1) b (by simpa using hj)
      rwa [show i0 + 1 + j = i0 + (j + 1) by omega]
    have h0 := hs 0 b rfl
    rw [Nat.add_zero] at h0
    have hb := h.bxs b
    simp only [List.flatMap_cons, List.map_cons]
    cases hx : bx b
    case box cs =>
      rw [hx] at hb
      obtain ⟨_, k, cur, e, hk, hh, hr⟩ := hb
      simp only [lend, bxCells, cellsAt, subGh, h0, hk, heapCells, hh]
      exact RelL.append hr ih
    all_goals (simp only [lend, bxCells, cellsAt, List.nil_append]; exact ih)

theorem call_sim (h : Gam C sl bx g a w) {c : Nat} {f : AV} {avs : List AV} {cs : List SC} (hK : acallX P c bx f avs cs K) {vf : Value} (hf : Rel w (Mut g bx) C.F g C.args f vf) {vals : List Value}
    (hv : RelL w (Mut g bx) C.F g C.args avs vals) :
    ∃ v us ac, K v us ac ∧ ((∀ p ∈ us, c ≤ p.1 → bx p.1 = .none) → ∃ gid, callable P gid = true ∧ ∃ caps : List Value, vf = .func (.func gid) #[] caps.toArray ∧
      Calls P gid (vals ++ caps).toArray w fun e w' => ∃ u g', e = .returned u ∧ Gam C sl (updsF bx us) g' a w' ∧ Rel w' (Mut g' (updsF bx us)) C.F g' C.args v u) := by
  unfold acallX at hK
  split at hK
  case h_2 => exact hK.elim
  rename_i gid caps
  obtain ⟨sel, r, outs, ⟨hcall, hA⟩, ⟨hnd, halive, hlen, hokr, hokouts, hdis, hcs, hlt⟩, hk⟩ := hK
  refine ⟨_, _, _, hk, fun hnone => ⟨gid, hcall, ?_⟩⟩
  have hcells : RelL w (Mut g bx) C.F g C.args (sel.flatMap fun b => bxCells (bx b)) (cellsAt w (subGh g sel) 0 (sel.map fun b => lend bx (bx b))) := lentc_rel h sel 0 fun j b hj => by rwa [Nat.zero_add]
  simp only [Rel] at hf
  obtain ⟨us, rfl, hus⟩ := hf
  have hall := RelL.append hv (RelL.append hus hcells)
  generalize hcl : cellsAt w (subGh g sel) 0 (sel.map fun b => lend bx (bx b)) = cl at hall hcells
  generalize havx : (avs ++ (caps ++ sel.flatMap fun b => bxCells (bx b))) = avx at hall hk hnone ⊢
  refine ⟨us, rfl, ?_⟩
  have hlt' : ∀ b ∈ sel, b < c := fun b hb => by simpa using List.all_eq_true.1 hlt b hb
  have hinj : ∀ i j, mp sel c i = mp sel c j → i = j := fun i j e => mp_inj hnd hlt' e
  have halv : ∀ b ∈ sel, (∃ cs, bx b = .box cs) ∨ (∃ e d, bx b = .row e d) ∨ ∃ e t xss, bx b = .grid e t xss := fun b hb => by
    have := List.all_eq_true.1 halive b hb
    split at this
    · rename_i cs hx; exact .inl ⟨cs, hx⟩
    · rename_i e d hx; exact .inr (.inl ⟨e, d, hx⟩)
    · rename_i e t xss hx; exact .inr (.inr ⟨e, t, xss, hx⟩)
    · cases this
  -- the rows that die
  have hL : ∀ p ∈ (sel.flatMap fun b => lendDies bx (bx b)), ∃ e c, p.2 = .drow e c ∧ (bx p.1 = .row e c ∨ bx p.1 = .drow e c) := fun p hp => by
    obtain ⟨q, hq, hp⟩ := List.mem_flatMap.1 hp
    obtain ⟨e, c, h1, h2⟩ := lendDies_spec hp
    exact ⟨e, c, h1, .inl h2⟩
  obtain ⟨hG, hM, hin, hout⟩ := Gam.kills _ bx hL h
  generalize hbx1 : updsF bx (sel.flatMap fun b => lendDies bx (bx b)) = bx1 at *
  have hkeep : ∀ b e c, bx b = .drow e c → bx1 b = .drow e c := fun b e c hb => by
    rw [hout b (fun p hp e1 => ?_)]
    · exact hb
    · obtain ⟨e', c', _, h2⟩ := hL p hp
      obtain ⟨q, hq, hp⟩ := List.mem_flatMap.1 hp
      obtain ⟨e', c', h1, h2⟩ := lendDies_spec hp
      rw [e1, hb] at h2; cases h2
  have hsel : ∀ b ∈ sel, bx1 b = bx b := fun b hb => hout b fun p hp e1 => by
    obtain ⟨q, hq, hp⟩ := List.mem_flatMap.1 hp
    have := List.all_eq_true.1 (List.all_eq_true.1 hdis q hq) p hp
    simp only [Bool.not_eq_true', List.contains_eq_mem, decide_eq_false_iff_not] at this
    exact this (e1 ▸ hb)
  have h1le : ∀ b, (∀ p ∈ (sel.flatMap fun b => lendDies bx (bx b)), p.1 ≠ b) → bx1 b = bx b := hout
  -- what is lent
  have hgiv : ∀ i b, sel[i]? = some b → getB (sel.map fun b => lend bx (bx b)) i = lend bx (bx b) := fun i b hi => getB_some (by simp [hi])
  have hgivn : ∀ i, sel[i]? = none → getB (sel.map fun b => lend bx (bx b)) i = .none := fun i hi => getB_none (by simpa using hi)
  have hal : ∀ i k, AliveB (subGh g sel) (getB (sel.map fun b => lend bx (bx b))) i k ↔ ∃ b, sel[i]? = some b ∧ AliveB g bx b k := by
    intro i k
    cases hi : sel[i]? with
    | none => unfold AliveB; rw [hgivn i hi]; simp [AliveX]
    | some b =>
      unfold AliveB; rw [hgiv i b hi]
      rcases halv b (List.mem_of_getElem? hi) with ⟨cs', hx⟩ | ⟨e, d, hx⟩ | ⟨e, t, xss, hx⟩
      · rw [hx]; simp [lend, AliveX, subGh, hi, hx]
      · rw [hx]; simp [lend, AliveX, subGh, hi, hx]
      · rw [hx]; simp [lend, AliveX, subGh, hi, hx]
  have hM0 : ∀ k, Mut (subGh g sel) (getB (sel.map fun b => lend bx (bx b))) k ↔ ∃ b ∈ sel, AliveB g bx b k := by
    intro k
    constructor
    · rintro ⟨i, hi⟩; obtain ⟨b, hb, ha⟩ := (hal i k).1 hi; exact ⟨b, List.mem_of_getElem? hb, ha⟩
    · rintro ⟨b, hb, ha⟩; obtain ⟨i, hi⟩ := List.mem_iff_getElem?.1 hb; exact ⟨i, (hal i k).2 ⟨b, hi, ha⟩⟩
  have hM01 : ∀ k, Mut (subGh g sel) (getB (sel.map fun b => lend bx (bx b))) k → Mut g bx1 k := fun k hk => by
    obtain ⟨b, hb, ha⟩ := (hM0 k).1 hk
    exact ⟨b, by unfold AliveB at ha ⊢; rw [hsel b hb]; exact ha⟩
  generalize hMM : Mut (subGh g sel) (getB (sel.map fun b => lend bx (bx b))) = M0 at *
  let F0 : Nat → Prop := fun k => C.F k ∧ k < w.heap.size ∧ (¬ Mut g bx1 k ∨ M0 k)
  have hF0 : ∀ k, k < w.heap.size → ¬ Mut g bx1 k → C.F k → F0 k := fun k h1 h2 h3 => ⟨h3, h1, .inl h2⟩
  have hF0' : ∀ k, k < w.heap.size → ¬ Mut g bx k → C.F k → F0 k := fun k h1 h2 h3 => ⟨h3, h1, .inl fun hm => h2 (hM k hm)⟩
  have K1 : Keeps w (Mut g bx1) C.F w M0 F0 := ⟨Nat.le_refl _, fun _ _ _ => rfl, fun k _ hm => hM01 k hm, hF0⟩
  have K0 : Keeps w (Mut g bx) C.F w M0 F0 := ⟨Nat.le_refl _, fun _ _ _ => rfl, fun k _ hm => hM k (hM01 k hm), hF0'⟩
  have hbns : ∀ b k, b ∉ sel → AliveB g bx b k → ¬ M0 k := fun b k hb ha hm => by
    obtain ⟨b', hb', ha'⟩ := (hM0 k).1 hm
    exact hb (h.excl b b' k ha ha' ▸ hb')
  have hargs : RelL w M0 F0 (subGh g sel) [] (inArgs sel bx avs cs ++ inL sel bx caps) (vals ++ us) :=
    RelL.append (inArgs_rel h (fun k hm => hM k (hM01 k hm)) hbns hF0' avs cs vals (fun d hd => by simpa using List.all_eq_true.1 hcs d hd) hv) (inL_rel h (fun k hm => hM k (hM01 k hm)) hbns hF0' caps us hus)
  have hpre : ∀ i, BxR w M0 F0 (subGh g sel) [] i (getB (sel.map fun b => lend bx (bx b)) i) := by
    intro i
    cases hi : sel[i]? with
    | none => rw [hgivn i hi]; exact ⟨by simp [subGh, hi], fun n => by simp [subGh, hi]⟩
    | some b =>
      have hbm := List.mem_of_getElem? hi
      have hbx := h.bxs b
      rw [hgiv i b hi]
      rcases halv b hbm with ⟨cs', hx⟩ | ⟨e, d, hx⟩ | ⟨e, t, xss, hx⟩
      · rw [hx] at hbx ⊢
        obtain ⟨b1, k, cur, e, hk', hh, hr⟩ := hbx
        refine ⟨fun n => by simp only [subGh, hi]; exact b1 n, k, cur, e, by simp only [subGh, hi]; exact hk', hh, ?_⟩
        exact lendL_rel h hG hM hkeep K1 (fun p hp => hin p (List.mem_flatMap.2 ⟨b, hbm, by rw [hx]; exact hp⟩)) hr
      · rw [hx] at hbx ⊢
        obtain ⟨b1, b2, b3⟩ := hbx
        refine ⟨by simp only [subGh, hi]; exact b1, fun n hn => by simp only [subGh, hi]; exact b2 n hn, ?_⟩
        rcases b3 with ⟨h0, hn⟩ | ⟨k, cap, cur, hv', hh, a1, a2, a3, a4, a5⟩
        · exact .inl ⟨h0, by simp only [subGh, hi]; exact hn⟩
        · have ha : AliveB g bx b k := by unfold AliveB; rw [hx]; exact ⟨cap, hv'⟩
          exact .inr ⟨k, cap, cur, by simp only [subGh, hi]; exact hv', hh, a1, a2, a3, ⟨a4, lt_of_heap hh, .inr ((hM0 k).2 ⟨b, hbm, ha⟩)⟩, fun j hj => let ⟨u, hu, he⟩ := a5 j hj; ⟨u, hu, he.mono K0⟩⟩
      · rw [hx] at hbx ⊢
        obtain ⟨b1, b2, b3, v, b4, b5⟩ := hbx
        have eg : (subGh g sel).gi i = g.gi b := by funext k; simp only [subGh, hi]
        refine ⟨by simp only [subGh, hi]; exact b1, fun n hn => by simp only [subGh, hi]; exact b2 n hn, fun k hk => ?_, v, by simp only [subGh, hi]; exact b4, by rw [eg]; exact b5⟩
        rw [eg] at hk
        have ha : AliveB g bx b k := by unfold AliveB; rw [hx]; exact hk
        exact ⟨(b3 k hk).1, (b3 k hk).2, (b3 k hk).1, .inr ((hM0 k).2 ⟨b, hbm, ha⟩)⟩
  have hexc : ∀ i j k, AliveB (subGh g sel) (getB (sel.map fun b => lend bx (bx b))) i k → AliveB (subGh g sel) (getB (sel.map fun b => lend bx (bx b))) j k → i = j := by
    intro i j k h1 h2
    obtain ⟨b1, hb1, ha1⟩ := (hal i k).1 h1
    obtain ⟨b2, hb2, ha2⟩ := (hal j k).1 h2
    have e := h.excl b1 b2 k ha1 ha2
    subst e
    have l1 := (List.getElem?_eq_some_iff.1 hb1).1
    have l2 := (List.getElem?_eq_some_iff.1 hb2).1
    have m1 := mp_lt (c := c) l1
    have m2 := mp_lt (c := c) l2
    rw [hb1] at m1; rw [hb2] at m2
    exact hinj i j (by rw [← Option.some.injEq]; exact m1.symm.trans m2)
  have hcallA := hA w (vals ++ us) F0 (subGh g sel) (fun k hk => hk.2.1) (by rw [hMM]; exact hpre) hexc (by rw [hMM]; exact hargs) (by rw [hMM]; exact h.glo.mono fun k hk => hM k (hM01 k hk))
  rw [hMM, hcl] at hcallA
  refine hcallA.mono ?_
  rintro e w' ⟨v, g', he, hfr, hgle, hbx', hex', hown', hrel'⟩
  -- behind the call
  have hfresh : ∀ i, sel.length ≤ i → i < outs.length → bx (mp sel c i) = .none := by
    intro i h1 h2
    have hmem : ∀ (outs : List Bx) (i0 j : Nat), j < outs.length → ∃ x, (mp sel c (i0 + j), x) ∈ outU sel c avx i0 outs := by
      intro outs
      induction outs with
      | nil => intro i0 j hj; simp at hj
      | cons y r ih =>
        intro i0 j hj
        cases j with
        | zero => exact ⟨_, List.mem_cons_self⟩
        | succ j =>
          obtain ⟨x, hx⟩ := ih (i0 + 1) j (by simpa using hj)
          exact ⟨x, List.mem_cons_of_mem _ (by rwa [show i0 + (j + 1) = i0 + 1 + j from by omega])⟩
    obtain ⟨x, hx⟩ := hmem outs 0 i h2
    rw [Nat.zero_add] at hx
    exact hnone _ (List.mem_append_right _ hx) (by rw [mp_ge h1]; omega)
  have hU := updsF_outU (avs := avx) hinj outs 0 bx1
  simp only [Nat.zero_add] at hU
  obtain ⟨hU1, hU2⟩ := hU
  have hus2 : updsF bx ((sel.flatMap fun b => lendDies bx (bx b)) ++ outU sel c avx 0 outs) = updsF bx1 (outU sel c avx 0 outs) := by rw [updsF_append, hbx1]
  rw [hus2]
  generalize hbx2 : updsF bx1 (outU sel c avx 0 outs) = bx2 at *
  have hnot : ∀ b, inv sel c outs.length b = none → bx2 b = bx1 b := fun b hb => hU2 b (inv_none hb)
  have hnot' : ∀ b, inv sel c outs.length b = none → b ∉ sel := fun b hb hm => by
    obtain ⟨i, hi⟩ := List.mem_iff_getElem?.1 hm
    have l1 := (List.getElem?_eq_some_iff.1 hi).1
    have m1 := mp_lt (c := c) l1
    rw [hi] at m1
    exact inv_none hb i (by omega) (by rw [← Option.some.injEq]; exact m1.symm)
  have hyes : ∀ b i, inv sel c outs.length b = some i → ∃ x, outs[i]? = some x ∧ mp sel c i = b ∧ bx2 b = outB sel c avx x := fun b i hb => by
    obtain ⟨h1, h2⟩ := inv_some hb
    refine ⟨outs[i], List.getElem?_eq_getElem h1, h2, ?_⟩
    rw [← h2]; exact hU1 i _ (List.getElem?_eq_getElem h1)
  have gnone : ∀ i, outs.length ≤ i → g'.bb i = none ∧ ∀ n, g'.gh i n = none := fun i hi => by
    have := hbx' i; rw [getB_none hi] at this; exact this
  -- who owns what
  have hal2 : ∀ b k, AliveB (outGh g g' sel c outs.length) bx2 b k → (∃ i, inv sel c outs.length b = some i ∧ AliveB g' (getB outs) i k) ∨ (inv sel c outs.length b = none ∧ AliveB g bx1 b k) := by
    intro b k ha
    unfold AliveB at ha
    cases hb : inv sel c outs.length b with
    | none =>
      right; refine ⟨rfl, ?_⟩
      rw [hnot b hb] at ha
      unfold AliveB
      cases hx : bx1 b <;> rw [hx] at ha <;> simp only [AliveX, outGh, hb] at ha ⊢ <;> exact ha
    | some i =>
      left; refine ⟨i, rfl, ?_⟩
      obtain ⟨x, hx, _, hxb⟩ := hyes b i hb
      rw [hxb] at ha
      unfold AliveB; rw [getB_some hx]
      cases x <;> simp only [outB, AliveX, outGh, hb] at ha ⊢ <;> exact ha
  have hM21 : ∀ k, k < w.heap.size → Mut (outGh g g' sel c outs.length) bx2 k → Mut g bx1 k := fun k hk ⟨b, hb⟩ => by
    rcases hal2 b k hb with ⟨i, _, ha⟩ | ⟨_, ha⟩
    · rcases hown' i k ha with h1 | h1
      · exact hM01 k h1
      · omega
    · exact ⟨b, ha⟩
  have hkey : ∀ k, (F0 k ∨ w.heap.size ≤ k) → ¬ Mut g' (getB outs) k → ¬ Mut (outGh g g' sel c outs.length) bx2 k ∧ C.F k := by
    intro k hk hn
    refine ⟨?_, ?_⟩
    · rintro ⟨b, hb⟩
      rcases hal2 b k hb with ⟨i, _, ha⟩ | ⟨hbn, ha⟩
      · exact hn ⟨i, ha⟩
      · have hlt := hG.lt ha
        rcases hk with ⟨_, _, h3⟩ | h3
        · rcases h3 with h3 | h3
          · exact h3 ⟨b, ha⟩
          · obtain ⟨b', hb', ha'⟩ := (hM0 k).1 h3
            have ha1 : AliveB g bx1 b' k := by unfold AliveB at ha' ⊢; rw [hsel b' hb']; exact ha'
            have := hG.excl b b' k ha ha1
            subst this
            exact hnot' b hbn hb'
        · omega
    · rcases hk with ⟨h1, _⟩ | h1
      · exact h1
      · exact C_fresh_of h k h1
  have hgh : ∀ i n v, g'.gh i n = some v → (outGh g g' sel c outs.length).gh (mp sel c i) n = some v := fun i n v hv => by
    by_cases hi : i < outs.length
    · simp only [outGh, inv_mp hinj hi]; exact hv
    · rw [(gnone i (by omega)).2 n] at hv; cases hv
  have hbb : ∀ i k, g'.bb i = some k → (outGh g g' sel c outs.length).bb (mp sel c i) = some k := fun i k hv => by
    by_cases hi : i < outs.length
    · simp only [outGh, inv_mp hinj hi]; exact hv
    · rw [(gnone i (by omega)).1] at hv; cases hv
  have hgle2 : g.le (outGh g g' sel c outs.length) := by
    refine ⟨fun b k hk => ?_, fun b n v hv => ?_⟩
    · simp only [outGh]
      cases hb : inv sel c outs.length b with
      | none => exact hk
      | some i =>
        obtain ⟨h1, h2⟩ := inv_some hb
        by_cases hi : i < sel.length
        · have m1 := mp_lt (c := c) hi
          rw [h2] at m1
          exact hgle.1 i k (by simp only [subGh, m1]; exact hk)
        · have := h.bxs b
          rw [← h2, hfresh i (by omega) h1] at this
          rw [h2] at this
          rw [this.1] at hk; cases hk
    · simp only [outGh]
      cases hb : inv sel c outs.length b with
      | none => exact hv
      | some i =>
        obtain ⟨h1, h2⟩ := inv_some hb
        by_cases hi : i < sel.length
        · have m1 := mp_lt (c := c) hi
          rw [h2] at m1
          exact hgle.2 i n v (by simp only [subGh, m1]; exact hv)
        · have := h.bxs b
          rw [← h2, hfresh i (by omega) h1] at this
          rw [h2] at this
          rw [this.2 n] at hv; cases hv
  have hfr0 : ∀ k, k < w.heap.size → ¬ Mut g bx1 k → w'.heap[k]? = w.heap[k]? := fun k hk hn => hfr.frame k hk fun hm => hn (hM01 k hm)
  have K2 : Keeps w (Mut g bx1) C.F w' (Mut (outGh g g' sel c outs.length) bx2) C.F := ⟨hfr.size, hfr0, hM21, fun _ _ _ h => h⟩
  have K3 : Keeps w (Mut g bx) C.F w' (Mut (outGh g g' sel c outs.length) bx2) C.F := ⟨hfr.size, fun k hk hn => hfr0 k hk fun hm => hn (hM k hm), fun k hk hm => hM k (hM21 k hk hm), fun _ _ _ h => h⟩
  have havs : ∀ k v, (vals ++ us ++ cl)[k]? = some v → Rel w' (Mut (outGh g g' sel c outs.length) bx2) C.F (outGh g g' sel c outs.length) C.args (avx.getD k .undef) v := by
    intro k v hk
    rw [List.append_assoc] at hk
    exact (hall.get hk).mono K3 hgle2
  refine ⟨v, outGh g g' sel c outs.length, he, ?_, ?_⟩
  · refine hG.step K2 hgle2 ⟨hfr.os, hfr.tape, hfr.output, hfr.size, hfr0⟩ ?_ ?_ ?_
    · intro b
      cases hb : inv sel c outs.length b with
      | none =>
        rw [hnot b hb]
        refine (hG.bxs b).mono K2 hgle2 (fun k hk => by simp only [outGh, hb] at hk; exact hk) (fun n v hv => by simp only [outGh, hb] at hv; exact hv) (fun _ _ _ h => h) ?_ (by funext k; simp only [outGh, hb])
        intro k hk ha
        refine hfr.frame k hk fun hm => ?_
        obtain ⟨b', hb', ha'⟩ := (hM0 k).1 hm
        have ha1 : AliveB g bx1 b' k := by unfold AliveB at ha' ⊢; rw [hsel b' hb']; exact ha'
        have := hG.excl b b' k ha ha1
        subst this
        exact hnot' b hb hb'
      | some i =>
        obtain ⟨x, hx, hmp, hxb⟩ := hyes b i hb
        rw [hxb, ← hmp]
        have hokx := List.all_eq_true.1 hokouts x (List.mem_of_getElem? hx)
        have hbi := hbx' i
        rw [getB_some hx] at hbi
        have hi := (inv_some hb).1
        exact outB_rel hkey hgh hbb havs (fun n => by simp only [outGh, inv_mp hinj hi]) (by simp only [outGh, inv_mp hinj hi]) hokx (fun k => by simp only [outGh, inv_mp hinj hi]) (fun k ha hF1 => by
          rcases hF1 with ⟨h1, _⟩ | h1
          · exact h1
          · exact C_fresh_of h k h1) hbi
    · intro b1 b2 k h1 h2
      rcases hal2 b1 k h1 with ⟨i1, e1, a1⟩ | ⟨e1, a1⟩ <;> rcases hal2 b2 k h2 with ⟨i2, e2, a2⟩ | ⟨e2, a2⟩
      · have := hex' i1 i2 k a1 a2
        subst this
        rw [← (inv_some e1).2, ← (inv_some e2).2]
      · exfalso
        rcases hown' i1 k a1 with h3 | h3
        · obtain ⟨b', hb', ha'⟩ := (hM0 k).1 h3
          have ha1 : AliveB g bx1 b' k := by unfold AliveB at ha' ⊢; rw [hsel b' hb']; exact ha'
          have := hG.excl b2 b' k a2 ha1
          subst this
          exact hnot' b2 e2 hb'
        · have := hG.lt a2; omega
      · exfalso
        rcases hown' i2 k a2 with h3 | h3
        · obtain ⟨b', hb', ha'⟩ := (hM0 k).1 h3
          have ha1 : AliveB g bx1 b' k := by unfold AliveB at ha' ⊢; rw [hsel b' hb']; exact ha'
          have := hG.excl b1 b' k a1 ha1
          subst this
          exact hnot' b1 e1 hb'
        · have := hG.lt a1; omega
      · exact hG.excl b1 b2 k a1 a2
    · intro b k ha
      rcases hal2 b k ha with ⟨i, _, a1⟩ | ⟨_, a1⟩
      · rcases hown' i k a1 with h3 | h3
        · exact .inl (hM01 k h3)
        · exact .inr h3
      · exact .inl ⟨b, a1⟩
  · exact out_rel hkey hgh hbb havs r v hokr hrel'
end

end AM
end Go.Proofs.YtbookhehpebcmaaGreatDoor
