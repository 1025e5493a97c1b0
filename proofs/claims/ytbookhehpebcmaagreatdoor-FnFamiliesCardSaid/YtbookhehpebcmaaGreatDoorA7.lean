/-
  An abstract machine over the kit's Code.wp, and its soundness: part 7, stores, new variables, rows that die, rows that grow.
-/
import Derived.Test.YtbookhehpebcmaaGreatDoorA6
namespace Go.Proofs.YtbookhehpebcmaaGreatDoor
namespace AM
set_option linter.unusedVariables false
set_option linter.unusedSimpArgs false

def updsF (bx : Nat → Bx) : List (Nat × Bx) → Nat → Bx
  | [] => bx
  | (b, x) :: r => updsF (upd bx b x) r

section
variable {P : Program} {C : Cx} {sl : Nat → AV} {bx : Nat → Bx} {g g' : Gh} {a : Act} {w w' : World} {K : Kt}

theorem upd_self {α : Type} (f : Nat → α) {i : Nat} {x : α} (h : f i = x) : upd f i x = f := by
  funext j; by_cases e : j = i
  · subst e; simp [h]
  · rw [upd_other _ _ e]

/-- A variable's cells are written. -/
theorem Gam.setBox (h : Gam C sl bx g a w) {b k : Nat} {cells cells' : List AV} {cur : Array Value} {e : TypeId} {us : List Value} (hb : bx b = .box cells) (hk : g.bb b = some k)
    (hh : w.heap[k]? = some (.cells cur e (0, 0))) (hr : RelL w (Mut g bx) C.F g C.args cells' us) : Gam C sl (upd bx b (.box cells')) g a (w.setRow k us.toArray) := by
  have hbx := h.bxs b
  rw [hb] at hbx
  have ha : AliveB g bx b k := by unfold AliveB; rw [hb]; exact hk
  have hal : ∀ k', AliveX g b (.box cells') k' → AliveB g bx b k' := fun k' hk' => by unfold AliveB; rw [hb]; exact hk'
  have hM : ∀ k', Mut g (upd bx b (.box cells')) k' → Mut g bx k' := by
    rintro k' ⟨b', hb'⟩
    by_cases e : b' = b
    · subst e; unfold AliveB at hb'; rw [upd_same] at hb'; exact ⟨b', hal k' hb'⟩
    · unfold AliveB at hb'; rw [upd_other _ _ e] at hb'; exact ⟨b', hb'⟩
  have hK : Keeps w (Mut g bx) C.F (w.setRow k us.toArray) (Mut g (upd bx b (.box cells'))) C.F :=
    ⟨by simp, fun k' _ hn => setRow_other w k k' _ (fun e => hn (by subst e; exact ⟨b, ha⟩)), fun k' _ hm => hM k' hm, fun _ _ _ h => h⟩
  refine h.one b _ g.le_refl (fun _ _ => ⟨rfl, fun _ => rfl⟩) (fun k' _ hn => setRow_other w k k' _ (fun e => hn (by subst e; exact ha))) rfl rfl rfl (by simp) ?_ (fun k' hk' => .inl (hal k' hk'))
  exact ⟨hbx.1, k, us.toArray, e, hk, setRow_heap w k cur _ e _ hh, by simpa using hr.mono hK g.le_refl⟩

/-- A row's cells are written; its length stays. -/
theorem Gam.setRow (h : Gam C sl bx g a w) {b k cap : Nat} {c c' : SC} {cur cur' : Array Value} {e : TypeId} (hb : bx b = .row e c) (hk : g.gh b c.len = some (.slice (some ⟨k, 0, none⟩) c.len cap))
    (hh : w.heap[k]? = some (.cells cur e (0, 0))) (hlen : c'.len = c.len) (hsz : cur'.size = cur.size) (hr : ∀ i, i < c.len → ∃ u, cur'[i]? = some u ∧ ElR w (Mut g bx) C.F c' i u) :
    Gam C sl (upd bx b (.row e c')) g a (w.setRow k cur') := by
  have hbx := h.bxs b
  rw [hb] at hbx
  have ha : AliveB g bx b k := by unfold AliveB; rw [hb]; exact ⟨cap, hk⟩
  have hal : ∀ k', AliveX g b (.row e c') k' → AliveB g bx b k' := fun k' hk' => by unfold AliveB; rw [hb]; simp only [AliveX, hlen] at hk' ⊢; exact hk'
  have hM : ∀ k', Mut g (upd bx b (.row e c')) k' → Mut g bx k' := by
    rintro k' ⟨b', hb'⟩
    by_cases e : b' = b
    · subst e; unfold AliveB at hb'; rw [upd_same] at hb'; exact ⟨b', hal k' hb'⟩
    · unfold AliveB at hb'; rw [upd_other _ _ e] at hb'; exact ⟨b', hb'⟩
  have hK : Keeps w (Mut g bx) C.F (w.setRow k cur') (Mut g (upd bx b (.row e c'))) C.F :=
    ⟨by simp, fun k' _ hn => setRow_other w k k' _ (fun e => hn (by subst e; exact ⟨b, ha⟩)), fun k' _ hm => hM k' hm, fun _ _ _ h => h⟩
  refine h.one b _ g.le_refl (fun _ _ => ⟨rfl, fun _ => rfl⟩) (fun k' _ hn => setRow_other w k k' _ (fun e => hn (by subst e; exact ha))) rfl rfl rfl (by simp) ?_ (fun k' hk' => .inl (hal k' hk'))
  obtain ⟨h1, h2, h3⟩ := hbx
  refine ⟨h1, fun n hn => h2 n (by omega), .inr ⟨k, cap, cur', by rw [hlen]; exact hk, setRow_heap w k cur _ e _ hh, ?_⟩⟩
  rcases h3 with ⟨h0, hn⟩ | ⟨k', cap', cur2, hv, hh', a1, a2, a3, a4, a5⟩
  · rw [h0, hn] at hk; cases hk
  · rw [hv] at hk; cases hk
    rw [hh'] at hh; cases hh
    refine ⟨by omega, by omega, a3, a4, fun i hi => ?_⟩
    obtain ⟨u, hu, he⟩ := hr i (by omega)
    exact ⟨u, hu, he.mono hK⟩

theorem Gam.drew (h : Gam C sl bx g a w) : Gam C sl bx g a w.drew := by
  have hK : Keeps w (Mut g bx) C.F w.drew (Mut g bx) C.F := ⟨Nat.le_refl _, fun _ _ _ => rfl, fun _ _ h => h, fun _ _ _ h => h⟩
  refine h.step hK g.le_refl ⟨rfl, rfl, rfl, Nat.le_refl _, fun _ _ _ => rfl⟩ (fun b => ?_) h.excl (fun b k ha => .inl ⟨b, ha⟩)
  exact (h.bxs b).mono hK g.le_refl (fun _ h => h) (fun _ _ h => h) (fun _ _ _ h => h) (fun _ _ _ => rfl)

/-- A row grows, in its place. -/
theorem Gam.growIn (h : Gam C sl bx g a w) {b k cap : Nat} {c c' : SC} {cur cur' : Array Value} {e : TypeId} (hb : bx b = .row e c) (hk : g.gh b c.len = some (.slice (some ⟨k, 0, none⟩) c.len cap))
    (hh : w.heap[k]? = some (.cells cur e (0, 0))) (hlen : c.len < c'.len) (hcap : c'.len ≤ cap) (hsz : cur'.size = cur.size) (hr : ∀ i, i < c'.len → ∃ u, cur'[i]? = some u ∧ ElR w (Mut g bx) C.F c' i u) :
    Gam C sl (upd bx b (.row e c')) (g.setR b c'.len (.slice (some ⟨k, 0, none⟩) c'.len cap)) a (w.setRow k cur') := by
  have hbx := h.bxs b
  rw [hb] at hbx
  obtain ⟨h1, h2, h3⟩ := hbx
  have ha : AliveB g bx b k := by unfold AliveB; rw [hb]; exact ⟨cap, hk⟩
  have hle : g.le (g.setR b c'.len (.slice (some ⟨k, 0, none⟩) c'.len cap)) := ⟨fun _ _ h => h, fun b' n v hv => by
    simp only [Gh.setR]
    by_cases e1 : b' = b
    · subst e1; rw [upd_same]
      by_cases e2 : n = c'.len
      · subst e2; rw [h2 _ hlen] at hv; cases hv
      · rw [upd_other _ _ e2]; exact hv
    · rw [upd_other _ _ e1]; exact hv⟩
  have hal : ∀ k', AliveX (g.setR b c'.len (.slice (some ⟨k, 0, none⟩) c'.len cap)) b (.row e c') k' → k' = k := fun k' hk' => by
    simp only [AliveX, Gh.setR, upd_same] at hk'; obtain ⟨_, hk'⟩ := hk'; cases hk'; rfl
  have hM : ∀ k', Mut (g.setR b c'.len (.slice (some ⟨k, 0, none⟩) c'.len cap)) (upd bx b (.row e c')) k' → Mut g bx k' := by
    rintro k' ⟨b', hb'⟩
    by_cases e1 : b' = b
    · subst e1; unfold AliveB at hb'; rw [upd_same] at hb'; rw [hal k' hb']; exact ⟨b', ha⟩
    · unfold AliveB at hb'; rw [upd_other _ _ e1] at hb'
      refine ⟨b', ?_⟩
      unfold AliveB
      cases hx : bx b' <;> rw [hx] at hb' <;> simp only [AliveX, Gh.setR] at hb' ⊢
      · exact hb'
      · rw [upd_other _ _ e1] at hb'; exact hb'
      · exact hb'
  have hK : Keeps w (Mut g bx) C.F (w.setRow k cur') (Mut (g.setR b c'.len (.slice (some ⟨k, 0, none⟩) c'.len cap)) (upd bx b (.row e c'))) C.F :=
    ⟨by simp, fun k' _ hn => setRow_other w k k' _ (fun e => hn (by subst e; exact ⟨b, ha⟩)), fun k' _ hm => hM k' hm, fun _ _ _ h => h⟩
  refine h.one b _ hle (fun b' e1 => ⟨rfl, fun n => by simp only [Gh.setR]; rw [upd_other _ _ e1]⟩) (fun k' _ hn => setRow_other w k k' _ (fun e => hn (by subst e; exact ha))) rfl rfl rfl (by simp) ?_ (fun k' hk' => .inl (by rw [hal k' hk']; exact ha))
  refine ⟨h1, fun n hn => ?_, .inr ⟨k, cap, cur', by simp [Gh.setR], setRow_heap w k cur _ e _ hh, ?_⟩⟩
  · simp only [Gh.setR, upd_same]; rw [upd_other _ _ (by omega)]; exact h2 n (by omega)
  rcases h3 with ⟨h0, hn⟩ | ⟨k', cap', cur2, hv, hh', a1, a2, a3, a4, a5⟩
  · rw [h0, hn] at hk; cases hk
  · rw [hv] at hk; cases hk
    rw [hh'] at hh; cases hh
    exact ⟨by omega, hcap, a3, a4, fun i hi => let ⟨u, hu, he⟩ := hr i hi; ⟨u, hu, he.mono hK⟩⟩

/-- A row grows, in a new place. -/
theorem Gam.growOut (h : Gam C sl bx g a w) {b cap : Nat} {c c' : SC} {cur' : Array Value} {e : TypeId} (hb : bx b = .row e c)
    (hlen : c.len < c'.len) (hcap : c'.len ≤ cap) (hsz : cap ≤ cur'.size) (hm : cap ≤ maxLen) (hr : ∀ i, i < c'.len → ∃ u, cur'[i]? = some u ∧ ElR w (Mut g bx) C.F c' i u) :
    Gam C sl (upd bx b (.row e c')) (g.setR b c'.len (.slice (some ⟨w.heap.size, 0, none⟩) c'.len cap)) a (w.alloc (.cells cur' e)) := by
  have hbx := h.bxs b
  rw [hb] at hbx
  obtain ⟨h1, h2, h3⟩ := hbx
  have hle : g.le (g.setR b c'.len (.slice (some ⟨w.heap.size, 0, none⟩) c'.len cap)) := ⟨fun _ _ h => h, fun b' n v hv => by
    simp only [Gh.setR]
    by_cases e1 : b' = b
    · subst e1; rw [upd_same]
      by_cases e2 : n = c'.len
      · subst e2; rw [h2 _ hlen] at hv; cases hv
      · rw [upd_other _ _ e2]; exact hv
    · rw [upd_other _ _ e1]; exact hv⟩
  have hal : ∀ k', AliveX (g.setR b c'.len (.slice (some ⟨w.heap.size, 0, none⟩) c'.len cap)) b (.row e c') k' → k' = w.heap.size := fun k' hk' => by
    simp only [AliveX, Gh.setR, upd_same] at hk'; obtain ⟨_, hk'⟩ := hk'; cases hk'; rfl
  have hM : ∀ k', k' < w.heap.size → Mut (g.setR b c'.len (.slice (some ⟨w.heap.size, 0, none⟩) c'.len cap)) (upd bx b (.row e c')) k' → Mut g bx k' := by
    rintro k' hlt ⟨b', hb'⟩
    by_cases e1 : b' = b
    · subst e1; unfold AliveB at hb'; rw [upd_same] at hb'; have := hal k' hb'; omega
    · unfold AliveB at hb'; rw [upd_other _ _ e1] at hb'
      refine ⟨b', ?_⟩
      unfold AliveB
      cases hx : bx b' <;> rw [hx] at hb' <;> simp only [AliveX, Gh.setR] at hb' ⊢
      · exact hb'
      · rw [upd_other _ _ e1] at hb'; exact hb'
      · exact hb'
  have hK : Keeps w (Mut g bx) C.F (w.alloc (.cells cur' e)) (Mut (g.setR b c'.len (.slice (some ⟨w.heap.size, 0, none⟩) c'.len cap)) (upd bx b (.row e c'))) C.F :=
    ⟨by simp, fun k hk _ => by exact heap_alloc_old w _ hk, hM, fun _ _ _ h => h⟩
  refine h.one b _ hle (fun b' e1 => ⟨rfl, fun n => by simp only [Gh.setR]; rw [upd_other _ _ e1]⟩) (fun k hk _ => by exact heap_alloc_old w _ hk) rfl rfl rfl (by simp) ?_ (fun k' hk' => .inr (by rw [hal k' hk']; exact Nat.le_refl _))
  refine ⟨h1, fun n hn => ?_, .inr ⟨w.heap.size, cap, cur', by simp [Gh.setR], heap_alloc_new w _, hsz, hcap, hm, h.fresh _ h.fr.size, fun i hi => let ⟨u, hu, he⟩ := hr i hi; ⟨u, hu, he.mono hK⟩⟩⟩
  simp only [Gh.setR, upd_same]; rw [upd_other _ _ (by omega)]; exact h2 n (by omega)

/-- Rows die: what stands is the state, and what is known of each. -/
theorem Gam.kills : ∀ (L : List (Nat × Bx)) (bx : Nat → Bx), (∀ p ∈ L, ∃ e c, p.2 = .drow e c ∧ (bx p.1 = .row e c ∨ bx p.1 = .drow e c)) → Gam C sl bx g a w →
    Gam C sl (updsF bx L) g a w ∧ (∀ k, Mut g (updsF bx L) k → Mut g bx k) ∧ (∀ p ∈ L, updsF bx L p.1 = p.2) ∧ ∀ b, (∀ p ∈ L, p.1 ≠ b) → updsF bx L b = bx b
  | [], bx, _, h => ⟨h, fun _ h => h, by simp, fun _ _ => rfl⟩
  | (b, x) :: L, bx, hL, h => by
    obtain ⟨e, c, rfl, hb⟩ := hL (b, x) (by simp)
    have hstep : Gam C sl (upd bx b (.drow e c)) g a w := by
      rcases hb with hb | hb
      · exact h.kill hb
      · rw [upd_self bx hb]; exact h
    have hM : ∀ k, Mut g (upd bx b (.drow e c)) k → Mut g bx k := by
      rintro k ⟨b', hb'⟩
      by_cases e1 : b' = b
      · subst e1; simp only [AliveB, upd_same, AliveX] at hb'
      · unfold AliveB at hb'; rw [upd_other _ _ e1] at hb'; exact ⟨b', hb'⟩
    have hL' : ∀ p ∈ L, ∃ e' c', p.2 = .drow e' c' ∧ (upd bx b (.drow e c) p.1 = .row e' c' ∨ upd bx b (.drow e c) p.1 = .drow e' c') := by
      intro p hp
      obtain ⟨e', c', hp2, hp1⟩ := hL p (by simp [hp])
      refine ⟨e', c', hp2, ?_⟩
      by_cases e1 : p.1 = b
      · rw [e1, upd_same]
        rw [e1] at hp1
        rcases hb with hb | hb <;> rcases hp1 with hp1 | hp1 <;> rw [hb] at hp1 <;> cases hp1 <;> exact .inr rfl
      · rw [upd_other _ _ e1]; exact hp1
    obtain ⟨r1, r2, r3, r4⟩ := Gam.kills L _ hL' hstep
    refine ⟨r1, fun k hk => hM k (r2 k hk), ?_, ?_⟩
    · intro p hp
      rcases List.mem_cons.1 hp with rfl | hp
      · by_cases hin : ∃ q ∈ L, q.1 = b
        · obtain ⟨q, hq, hqb⟩ := hin
          have h1 := r3 q hq
          rw [hqb] at h1
          obtain ⟨e', c', hq2, hq1⟩ := hL q (by simp [hq])
          rw [hqb] at hq1
          show updsF (upd bx b _) L b = _
          rw [h1, hq2]
          rcases hb with hb | hb <;> rcases hq1 with hq1 | hq1 <;> rw [hb] at hq1 <;> cases hq1 <;> rfl
        · show updsF (upd bx b _) L b = _
          rw [r4 b (fun q hq e => hin ⟨q, hq, e⟩), upd_same]
      · exact r3 p hp
    · intro b' hb'
      show updsF (upd bx b _) L b' = _
      rw [r4 b' (fun q hq => hb' q (List.mem_cons_of_mem _ hq)), upd_other _ _ (fun e1 => hb' (b, .drow e c) List.mem_cons_self e1.symm)]
end

end AM
end Go.Proofs.YtbookhehpebcmaaGreatDoor
