/-
  An abstract machine over the kit's Code.wp, and its soundness: part 3, how a state is carried over one change of the memory.
-/
import Derived.Test.YtbookhehpebcmaaGreatDoorA2
namespace Go.Proofs.YtbookhehpebcmaaGreatDoor
namespace AM
set_option linter.unusedVariables false

def upd {α : Type} (f : Nat → α) (i : Nat) (x : α) : Nat → α := fun j => if j = i then x else f j
@[simp] theorem upd_same {α : Type} (f : Nat → α) (i : Nat) (x : α) : upd f i x i = x := by simp [upd]
theorem upd_other {α : Type} (f : Nat → α) {i j : Nat} (x : α) (h : j ≠ i) : upd f i x j = f j := by simp [upd, h]

theorem Gh.le_refl (g : Gh) : g.le g := ⟨fun _ _ h => h, fun _ _ _ h => h⟩
theorem Gh.le_trans {a b c : Gh} (h : a.le b) (k : b.le c) : a.le c := ⟨fun i j x => k.1 _ _ (h.1 i j x), fun i j v x => k.2 _ _ _ (h.2 i j v x)⟩
theorem Frame0.refl (w : World) (G : Nat → Prop) : Frame0 w w G := ⟨rfl, rfl, rfl, Nat.le_refl _, fun _ _ _ => rfl⟩
theorem Frame0.trans {a b c : World} {G G' : Nat → Prop} (h : Frame0 a b G) (k : Frame0 b c G') (hg : ∀ x, x < a.heap.size → G' x → G x) : Frame0 a c G :=
  ⟨k.os.trans h.os, k.tape.trans h.tape, k.output.trans h.output, Nat.le_trans h.size k.size,
    fun i hi hn => (k.frame i (Nat.lt_of_lt_of_le hi h.size) (fun x => hn (hg i hi x))).trans (h.frame i hi hn)⟩

section
variable {C : Cx} {sl : Nat → AV} {bx bx' : Nat → Bx} {g g' : Gh} {a : Act} {w w' : World}

theorem AliveX.lt {M F : Nat → Prop} {args : List Value} {b k : Nat} {x : Bx} (h : BxR w M F g args b x) (ha : AliveX g b x k) : k < w.heap.size := by
  cases x with
  | box cells => obtain ⟨_, k', cur, e, hk, hh, _⟩ := h; simp only [AliveX] at ha; rw [hk] at ha; cases ha; exact lt_of_heap hh
  | row e c =>
    obtain ⟨_, _, h3⟩ := h
    obtain ⟨cap, ha⟩ := ha
    rcases h3 with ⟨h0, hn⟩ | ⟨k', cap', cur, hv, hh, _⟩
    · rw [h0, hn] at ha; cases ha
    · rw [hv] at ha; cases ha; exact lt_of_heap hh
  | grid e t xss => obtain ⟨_, _, h3, _⟩ := h; exact (h3 k ha).1
  | _ => simp only [AliveX] at ha

theorem Gam.lt (h : Gam C sl bx g a w) {b k : Nat} (ha : AliveB g bx b k) : k < w.heap.size := AliveX.lt (h.bxs b) ha

theorem Gam.step (h : Gam C sl bx g a w) (hK : Keeps w (Mut g bx) C.F w' (Mut g' bx') C.F) (hg : g.le g') (hf : Frame0 w w' (Mut g bx))
    (hb : ∀ b, BxR w' (Mut g' bx') C.F g' C.args b (bx' b)) (hex : ∀ b b' k, AliveB g' bx' b k → AliveB g' bx' b' k → b = b')
    (hown : ∀ b k, AliveB g' bx' b k → Mut g bx k ∨ w.heap.size ≤ k) : Gam C sl bx' g' a w' where
  fr := h.fr.trans hf fun k hk ⟨b, hb⟩ => (h.own b k hb).resolve_right (Nat.not_le.2 hk)
  slots := h.slots
  defers := h.defers
  fresh := h.fresh
  sls t := (h.sls t).mono hK hg
  bxs := hb
  excl := hex
  own b k ha := by
    rcases hown b k ha with ⟨b', hb'⟩ | hk
    · exact h.own b' k hb'
    · exact .inr (Nat.le_trans h.fr.size hk)
  gle := Gh.le_trans h.gle hg

/-- One numbered block changes; in memory nothing but its own block, or a new one. -/
theorem Gam.one (h : Gam C sl bx g a w) (b : Nat) (x : Bx) (hg : g.le g') (hgb : ∀ b', b' ≠ b → g'.bb b' = g.bb b' ∧ ∀ n, g'.gh b' n = g.gh b' n)
    (hsame : ∀ k, k < w.heap.size → ¬ AliveB g bx b k → w'.heap[k]? = w.heap[k]?)
    (hos : w'.os = w.os) (htape : w'.tape = w.tape) (hout : w'.output = w.output) (hsize : w.heap.size ≤ w'.heap.size)
    (hx : BxR w' (Mut g' (upd bx b x)) C.F g' C.args b x) (hal : ∀ k, AliveX g' b x k → AliveB g bx b k ∨ w.heap.size ≤ k) (hgi : g'.gi = g.gi := by rfl) : Gam C sl (upd bx b x) g' a w' := by
  have other : ∀ b', b' ≠ b → ∀ k, AliveB g' (upd bx b x) b' k ↔ AliveB g bx b' k := by
    intro b' hne k
    unfold AliveB
    rw [upd_other _ _ hne]
    obtain ⟨h1, h2⟩ := hgb b' hne
    cases bx b' <;> simp only [AliveX, h1, h2, hgi]
  have same : ∀ k, AliveB g' (upd bx b x) b k ↔ AliveX g' b x k := by
    intro k; unfold AliveB; rw [upd_same]
  have hM : ∀ k, k < w.heap.size → Mut g' (upd bx b x) k → Mut g bx k := by
    rintro k hk ⟨b', hb'⟩
    by_cases e : b' = b
    · subst e
      rcases hal k ((same k).1 hb') with h1 | h1
      · exact ⟨b', h1⟩
      · omega
    · exact ⟨b', (other b' e k).1 hb'⟩
  have hK : Keeps w (Mut g bx) C.F w' (Mut g' (upd bx b x)) C.F :=
    ⟨hsize, fun k hk hn => hsame k hk fun ha => hn ⟨b, ha⟩, hM, fun _ _ _ h => h⟩
  refine h.step hK hg ⟨hos, htape, hout, hsize, fun k hk hn => hsame k hk fun ha => hn ⟨b, ha⟩⟩ ?_ ?_ ?_
  · intro b'
    by_cases e : b' = b
    · subst e; rw [upd_same]; exact hx
    · rw [upd_other _ _ e]
      refine (h.bxs b').mono hK hg (fun k hk => by rw [← (hgb b' e).1]; exact hk) (fun n v hn => by rw [← (hgb b' e).2]; exact hn) (fun _ _ _ h => h) ?_ (by rw [hgi])
      intro k hk ha
      exact hsame k hk fun hb => e (h.excl b' b k ha hb)
  · intro b1 b2 k h1 h2
    by_cases e1 : b1 = b
    · by_cases e2 : b2 = b
      · rw [e1, e2]
      · subst e1
        have h2' := (other b2 e2 k).1 h2
        rcases hal k ((same k).1 h1) with h3 | h3
        · exact absurd (h.excl b2 b1 k h2' h3) e2
        · have := h.lt h2'; omega
    · by_cases e2 : b2 = b
      · subst e2
        have h1' := (other b1 e1 k).1 h1
        rcases hal k ((same k).1 h2) with h3 | h3
        · exact h.excl b1 b2 k h1' h3
        · have := h.lt h1'; omega
      · exact h.excl b1 b2 k ((other b1 e1 k).1 h1) ((other b2 e2 k).1 h2)
  · intro b' k ha
    by_cases e : b' = b
    · subst e
      rcases hal k ((same k).1 ha) with h1 | h1
      · exact .inl ⟨b', h1⟩
      · exact .inr h1
    · exact .inl ⟨b', (other b' e k).1 ha⟩

theorem Act.put_size (a : Act) (d : Option Nat) (v : Value) : (a.put d v).tmps.size = a.tmps.size := by cases d <;> simp [Act.put]
theorem Act.put_defers' (a : Act) (d : Option Nat) (v : Value) : (a.put d v).defers = a.defers := by cases d <;> rfl

def putS (sl : Nat → AV) : Option Nat → AV → Nat → AV
  | none, _ => sl
  | some d, x => upd sl d x

/-- A slot is written. -/
theorem Gam.put (h : Gam C sl bx g a w) (d : Option Nat) {x : AV} {v : Value} (hd : ∀ i, d = some i → i < C.N) (hx : Rel w (Mut g bx) C.F g C.args x v) : Gam C (putS sl d x) bx g (a.put d v) w where
  fr := h.fr
  slots := (Act.put_size a d v).trans h.slots
  defers := (Act.put_defers' a d v).trans h.defers
  fresh := h.fresh
  sls t := by
    cases d with
    | none => exact h.sls t
    | some d =>
      have hlt := hd d rfl
      simp only [putS, Act.put]
      by_cases e : t = d
      · subst e
        rw [upd_same]
        have : t < a.tmps.size := by rw [h.slots]; exact hlt
        simpa [Array.getD, this] using hx
      · rw [upd_other _ _ e]
        have hs := h.sls t
        have : (a.tmps.setIfInBounds d v).getD t undef = a.tmps.getD t undef := by
          simp only [Array.getD_eq_getD_getElem?]
          rw [Array.getElem?_setIfInBounds_ne (by omega)]
        rw [this]; exact hs
  bxs := h.bxs
  excl := h.excl
  own := h.own
  gle := h.gle

/-- A row dies: it lasts as it is. -/
theorem Gam.kill (h : Gam C sl bx g a w) {b : Nat} {e : TypeId} {c : SC} (hb : bx b = .row e c) : Gam C sl (upd bx b (.drow e c)) g a w := by
  have hbx := h.bxs b
  rw [hb] at hbx
  obtain ⟨h1, h2, h3⟩ := hbx
  have hnm : ∀ k, AliveB g bx b k → ¬ Mut g (upd bx b (.drow e c)) k := by
    rintro k ha ⟨b', hb'⟩
    by_cases e : b' = b
    · subst e; simp only [AliveB, upd_same, AliveX] at hb'
    · unfold AliveB at hb'; rw [upd_other _ _ e] at hb'
      exact e (h.excl b' b k hb' ha)
  have hM : ∀ k, Mut g (upd bx b (.drow e c)) k → Mut g bx k := by
    rintro k ⟨b', hb'⟩
    by_cases e : b' = b
    · subst e; simp only [AliveB, upd_same, AliveX] at hb'
    · unfold AliveB at hb'; rw [upd_other _ _ e] at hb'; exact ⟨b', hb'⟩
  have hK : Keeps w (Mut g bx) C.F w (Mut g (upd bx b (.drow e c))) C.F := ⟨Nat.le_refl _, fun _ _ _ => rfl, fun k _ hk => hM k hk, fun _ _ _ h => h⟩
  refine h.one b _ g.le_refl (fun _ _ => ⟨rfl, fun _ => rfl⟩) (fun _ _ _ => rfl) rfl rfl rfl (Nat.le_refl _) ?_ (fun k hk => by simp only [AliveX] at hk)
  refine ⟨h1, h2, ?_⟩
  rcases h3 with ⟨h0, hn⟩ | ⟨k, cap, cur, hv, hh, a1, a2, a3, a4, a5⟩
  · refine ⟨_, by rw [h0]; exact hn, ⟨none, 0, by rw [h0], by rw [h0]; exact Nat.le_refl _, Nat.zero_le _, fun i hi => by omega⟩, .inl rfl⟩
  · have ha : AliveB g bx b k := by unfold AliveB; rw [hb]; exact ⟨cap, hv⟩
    refine ⟨_, hv, ⟨_, _, rfl, a2, a3, fun i hi => ?_⟩, .inr ⟨k, _, _, cur, rfl, hh, a1, a4, hnm k ha⟩⟩
    obtain ⟨u, hu, he⟩ := a5 i hi
    refine ⟨u, ⟨⟨k, 0, none⟩, rfl, rfl, hnm k ha, ?_⟩, he.mono hK⟩
    rw [cell_of_row w k _ cur e (0, 0) hh]
    simpa using hu

/-- A variable dies: it lasts as it is. -/
theorem Gam.killBox (h : Gam C sl bx g a w) {b : Nat} {cells : List AV} (hb : bx b = .box cells) : Gam C sl (upd bx b (.dbox cells)) g a w := by
  have hbx := h.bxs b
  rw [hb] at hbx
  obtain ⟨h1, k, cur, e, hk, hh, hr⟩ := hbx
  have ha : AliveB g bx b k := by unfold AliveB; rw [hb]; exact hk
  have hM : ∀ k, Mut g (upd bx b (.dbox cells)) k → Mut g bx k := by
    rintro k ⟨b', hb'⟩
    by_cases e : b' = b
    · subst e; simp only [AliveB, upd_same, AliveX] at hb'
    · unfold AliveB at hb'; rw [upd_other _ _ e] at hb'; exact ⟨b', hb'⟩
  have hnm : ¬ Mut g (upd bx b (.dbox cells)) k := by
    rintro ⟨b', hb'⟩
    by_cases e : b' = b
    · subst e; simp only [AliveB, upd_same, AliveX] at hb'
    · unfold AliveB at hb'; rw [upd_other _ _ e] at hb'
      exact e (h.excl b' b k hb' ha)
  have hK : Keeps w (Mut g bx) C.F w (Mut g (upd bx b (.dbox cells))) C.F := ⟨Nat.le_refl _, fun _ _ _ => rfl, fun k _ hk => hM k hk, fun _ _ _ h => h⟩
  refine h.one b _ g.le_refl (fun _ _ => ⟨rfl, fun _ => rfl⟩) (fun _ _ _ => rfl) rfl rfl rfl (Nat.le_refl _) ?_ (fun k hk => by simp only [AliveX] at hk)
  refine ⟨h1, k, cur.toList, hk, lt_of_heap hh, hnm, hr.mono hK g.le_refl, fun i u hi => ?_⟩
  rw [cell_of_row w k i cur e (0, 0) hh]
  simpa using hi

def Gh.setB (g : Gh) (b k : Nat) : Gh := { g with bb := upd g.bb b (some k) }
def Gh.setR (g : Gh) (b n : Nat) (v : Value) (h : ∃ a cap, v = .slice a n cap := by exact ⟨_, _, rfl⟩) : Gh :=
  { g with
    gh := upd g.gh b (upd (g.gh b) n (some v))
    one := fun b' n' v' hv => by
      by_cases e : b' = b
      · subst e; rw [upd_same] at hv
        by_cases e2 : n' = n
        · subst e2; rw [upd_same] at hv; cases hv; exact h
        · rw [upd_other _ _ e2] at hv; exact g.one _ _ _ hv
      · rw [upd_other _ _ e] at hv; exact g.one _ _ _ hv }

/-- A new variable. -/
theorem Gam.newBox (h : Gam C sl bx g a w) {b : Nat} (hb : bx b = .none) (cells : List AV) (us : List Value) (e : TypeId) (hr : RelL w (Mut g bx) C.F g C.args cells us) :
    Gam C sl (upd bx b (.box cells)) (g.setB b w.heap.size) a (w.alloc (.cells us.toArray e)) := by
  have hbx := h.bxs b
  rw [hb] at hbx
  obtain ⟨h1, h2⟩ := hbx
  have hle : g.le (g.setB b w.heap.size) := ⟨fun b' k hk => by
    by_cases e : b' = b
    · subst e; rw [h1] at hk; cases hk
    · simp only [Gh.setB]; rw [upd_other _ _ e]; exact hk, fun _ _ _ h => h⟩
  have hal : ∀ k, AliveX (g.setB b w.heap.size) b (.box cells) k → k = w.heap.size := fun k hk => by
    simp only [AliveX, Gh.setB, upd_same] at hk; cases hk; rfl
  have hM : ∀ k, k < w.heap.size → Mut (g.setB b w.heap.size) (upd bx b (.box cells)) k → Mut g bx k := by
    rintro k hk ⟨b', hb'⟩
    by_cases e : b' = b
    · subst e; unfold AliveB at hb'; rw [upd_same] at hb'; have := hal k hb'; omega
    · unfold AliveB at hb'; rw [upd_other _ _ e] at hb'
      refine ⟨b', ?_⟩
      unfold AliveB
      cases hx : bx b' <;> rw [hx] at hb' <;> simp only [AliveX, Gh.setB] at hb' ⊢
      · rw [upd_other _ _ e] at hb'; exact hb'
      · exact hb'
      · exact hb'
  have hK : Keeps w (Mut g bx) C.F (w.alloc (.cells us.toArray e)) (Mut (g.setB b w.heap.size) (upd bx b (.box cells))) C.F :=
    ⟨by simp, fun k hk _ => by exact heap_alloc_old w _ hk, hM, fun _ _ _ h => h⟩
  refine h.one b _ hle (fun b' e => ⟨by simp only [Gh.setB]; rw [upd_other _ _ e], fun _ => rfl⟩) (fun k hk _ => by exact heap_alloc_old w _ hk) rfl rfl rfl (by simp) ?_ (fun k hk => .inr (by rw [hal k hk]; exact Nat.le_refl _))
  exact ⟨h2, w.heap.size, us.toArray, e, by simp [Gh.setB], heap_alloc_new w _, by simpa using hr.mono hK hle⟩

/-- A new row. -/
theorem Gam.newRow (h : Gam C sl bx g a w) {b : Nat} (hb : bx b = .none) (c : SC) (cap : Nat) (cur : Array Value) (e : TypeId) (h1 : c.len ≤ cap) (h2 : cap ≤ cur.size) (h3 : cap ≤ maxLen)
    (hr : ∀ i, i < c.len → ∃ u, cur[i]? = some u ∧ ElR w (Mut g bx) C.F c i u) :
    Gam C sl (upd bx b (.row e c)) (g.setR b c.len (.slice (some ⟨w.heap.size, 0, none⟩) c.len cap)) a (w.alloc (.cells cur e)) := by
  have hbx := h.bxs b
  rw [hb] at hbx
  obtain ⟨b1, b2⟩ := hbx
  have hle : g.le (g.setR b c.len (.slice (some ⟨w.heap.size, 0, none⟩) c.len cap)) := ⟨fun _ _ h => h, fun b' n v hk => by
    by_cases e : b' = b
    · subst e; rw [b2] at hk; cases hk
    · simp only [Gh.setR]; rw [upd_other _ _ e]; exact hk⟩
  have hal : ∀ k, AliveX (g.setR b c.len (.slice (some ⟨w.heap.size, 0, none⟩) c.len cap)) b (.row e c) k → k = w.heap.size := fun k hk => by
    simp only [AliveX, Gh.setR, upd_same] at hk; obtain ⟨_, hk⟩ := hk; cases hk; rfl
  have hM : ∀ k, k < w.heap.size → Mut (g.setR b c.len (.slice (some ⟨w.heap.size, 0, none⟩) c.len cap)) (upd bx b (.row e c)) k → Mut g bx k := by
    rintro k hk ⟨b', hb'⟩
    by_cases e : b' = b
    · subst e; unfold AliveB at hb'; rw [upd_same] at hb'; have := hal k hb'; omega
    · unfold AliveB at hb'; rw [upd_other _ _ e] at hb'
      refine ⟨b', ?_⟩
      unfold AliveB
      cases hx : bx b' <;> rw [hx] at hb' <;> simp only [AliveX, Gh.setR] at hb' ⊢
      · exact hb'
      · rw [upd_other _ _ e] at hb'; exact hb'
      · exact hb'
  have hK : Keeps w (Mut g bx) C.F (w.alloc (.cells cur e)) (Mut (g.setR b c.len (.slice (some ⟨w.heap.size, 0, none⟩) c.len cap)) (upd bx b (.row e c))) C.F :=
    ⟨by simp, fun k hk _ => by exact heap_alloc_old w _ hk, hM, fun _ _ _ h => h⟩
  refine h.one b _ hle (fun b' e => ⟨rfl, fun n => by simp only [Gh.setR]; rw [upd_other _ _ e]⟩) (fun k hk _ => by exact heap_alloc_old w _ hk) rfl rfl rfl (by simp) ?_ (fun k hk => .inr (by rw [hal k hk]; exact Nat.le_refl _))
  refine ⟨b1, fun n hn => ?_, .inr ⟨w.heap.size, cap, cur, by simp [Gh.setR], heap_alloc_new w _, h2, h1, h3, h.fresh _ h.fr.size, fun i hi => let ⟨u, hu, he⟩ := hr i hi; ⟨u, hu, he.mono hK⟩⟩⟩
  simp only [Gh.setR, upd_same]
  rw [upd_other _ _ (by omega)]; exact b2 n
end

end AM
end Go.Proofs.YtbookhehpebcmaaGreatDoor
