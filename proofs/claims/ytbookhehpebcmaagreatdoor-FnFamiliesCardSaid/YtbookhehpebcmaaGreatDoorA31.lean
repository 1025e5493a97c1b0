/-
  An abstract machine over the kit's Code.wp, and its soundness: part 31, a returned row that is the callee's own is the caller's to write; a nil slice in a lent variable.
-/
import Derived.Test.YtbookhehpebcmaaGreatDoorA28
namespace Go.Proofs.YtbookhehpebcmaaGreatDoor
namespace AM
set_option linter.unusedVariables false
set_option linter.unusedSimpArgs false

theorem pk_em {p C : Prop} (h1 : p → C) (h2 : ¬ p → C) : C := (Classical.em p).elim h1 h2
theorem pk_bool {b : Bool} {C : Prop} (h1 : b = true → C) (h2 : b = false → C) : C := by
  cases b with
  | true => exact h1 rfl
  | false => exact h2 rfl

/-! What says the same whatever is writable. -/
mutual
def steadyA : AV → Bool
  | .int _ _ | .bool _ | .tt | .ff | .str _ | .nil => true
  | .agg xs => steadyL xs
  | .tup xs => steadyL xs
  | _ => false
def steadyL : List AV → Bool
  | [] => true
  | x :: r => steadyA x && steadyL r
end

/-! One whole row of its own in a value: its number. -/
mutual
def thawA : AV → AV
  | .sl (some _) c => .ref 0 c.len
  | .agg xs => .agg (thawL xs)
  | .tup xs => .tup (thawL xs)
  | x => x
def thawL : List AV → List AV
  | [] => []
  | x :: r => thawA x :: thawL r
end

/-! The rows in it; 'none': something else. -/
mutual
def ownA : AV → Option (List (TypeId × SC))
  | .int _ _ | .bool _ | .tt | .ff | .str _ | .nil => some []
  | .sl (some e) (.ints k xs) => some [(e, .ints k xs)]
  | .agg xs => ownL xs
  | .tup xs => ownL xs
  | _ => none
def ownL : List AV → Option (List (TypeId × SC))
  | [] => some []
  | x :: r => match ownA x, ownL r with
    | some a, some b => some (a ++ b)
    | _, _ => none
end

section
variable {w : World} {M F M' F' : Nat → Prop} {g g' : Gh} {vals vals' : List Value}

theorem own_split {x : AV} {r : List AV} {l : List (TypeId × SC)} (h : ownL (x :: r) = some l) : ∃ a b, ownA x = some a ∧ ownL r = some b ∧ l = a ++ b := by
  simp only [ownL] at h
  cases ha : ownA x with
  | none => rw [ha] at h; simp at h
  | some a =>
    cases hb : ownL r with
    | none => rw [ha, hb] at h; simp at h
    | some b => rw [ha, hb] at h; exact ⟨a, b, rfl, rfl, by simpa using h.symm⟩

mutual
theorem thaw_none : ∀ (x : AV) (v : Value), ownA x = some [] → Rel w M F g vals x v → Rel w M' F' g' vals' (thawA x) v
  | .int k n, v, _, h => by simp only [thawA, Rel] at h ⊢; exact h
  | .bool b, v, _, h => by simp only [thawA, Rel] at h ⊢; exact h
  | .tt, v, _, h => by simp only [thawA, Rel] at h ⊢; exact h
  | .ff, v, _, h => by simp only [thawA, Rel] at h ⊢; exact h
  | .str s, v, _, h => by simp only [thawA, Rel] at h ⊢; exact h
  | .nil, v, _, h => by simp only [thawA, Rel] at h ⊢; exact h
  | .agg xs, v, ho, h => by
    simp only [ownA] at ho; simp only [thawA, Rel] at h ⊢
    obtain ⟨us, rfl, hr⟩ := h
    exact ⟨us, rfl, thawL_none xs us ho hr⟩
  | .tup xs, v, ho, h => by
    simp only [ownA] at ho; simp only [thawA, Rel] at h ⊢
    obtain ⟨us, rfl, hr⟩ := h
    exact ⟨us, rfl, thawL_none xs us ho hr⟩
  | .sl (some e) (.ints k xs), v, ho, _ => by simp [ownA] at ho
  | .sl (some e) (.rows f xs), v, ho, _ => by simp [ownA] at ho
  | .sl (some e) (.strs xs), v, ho, _ => by simp [ownA] at ho
  | .sl none c, v, ho, _ => by simp [ownA] at ho
  | .undef, v, ho, _ => by simp [ownA] at ho
  | .skip, v, ho, _ => by simp [ownA] at ho
  | .prm k c, v, ho, _ => by simp [ownA] at ho
  | .ref b n, v, ho, _ => by simp [ownA] at ho
  | .ptr b off, v, ho, _ => by simp [ownA] at ho
  | .rp b n i, v, ho, _ => by simp [ownA] at ho
  | .ep x, v, ho, _ => by simp [ownA] at ho
  | .pv cs off, v, ho, _ => by simp [ownA] at ho
  | .clo f caps, v, ho, _ => by simp [ownA] at ho
theorem thawL_none : ∀ (xs : List AV) (us : List Value), ownL xs = some [] → RelL w M F g vals xs us → RelL w M' F' g' vals' (thawL xs) us
  | [], us, _, h => by simp only [RelL, thawL] at h ⊢; exact h
  | x :: r, us, ho, h => by
    obtain ⟨a, b, ha, hb, e⟩ := own_split ho
    have e1 : a = [] := by cases a with
      | nil => rfl
      | cons y z => simp at e
    have e2 : b = [] := by cases b with
      | nil => rfl
      | cons y z => rw [e1] at e; simp at e
    subst e1; subst e2
    simp only [RelL] at h
    obtain ⟨u, us', rfl, hx, hr⟩ := h
    simp only [thawL]
    exact RelL.cons (thaw_none x u ha hx) (thawL_none r us' hb hr)
end

mutual
theorem thaw_one {e : TypeId} {c : SC} : ∀ (x : AV) (v : Value), ownA x = some [(e, c)] → Rel w M F g vals x v →
    ∃ u, Vw w M F (some e) u c ∧ ∀ (M' F' : Nat → Prop) (g' : Gh) (vals' : List Value), g'.gh 0 c.len = some u → Rel w M' F' g' vals' (thawA x) v
  | .agg xs, v, ho, h => by
    simp only [ownA] at ho; simp only [Rel] at h
    obtain ⟨us, rfl, hr⟩ := h
    obtain ⟨u, hu, hk⟩ := thawL_one xs us ho hr
    exact ⟨u, hu, fun M' F' g' vals' hg => by simp only [thawA, Rel]; exact ⟨us, rfl, hk M' F' g' vals' hg⟩⟩
  | .tup xs, v, ho, h => by
    simp only [ownA] at ho; simp only [Rel] at h
    obtain ⟨us, rfl, hr⟩ := h
    obtain ⟨u, hu, hk⟩ := thawL_one xs us ho hr
    exact ⟨u, hu, fun M' F' g' vals' hg => by simp only [thawA, Rel]; exact ⟨us, rfl, hk M' F' g' vals' hg⟩⟩
  | .sl (some e') (.ints k xs), v, ho, h => by
    simp only [ownA, Option.some.injEq, List.cons.injEq, Prod.mk.injEq, and_true] at ho
    obtain ⟨rfl, rfl⟩ := ho
    simp only [Rel] at h
    exact ⟨v, h, fun M' F' g' vals' hg => by simp only [thawA, Rel]; exact hg⟩
  | .sl (some e) (.rows f xs), v, ho, _ => by simp [ownA] at ho
  | .sl (some e) (.strs xs), v, ho, _ => by simp [ownA] at ho
  | .int k n, v, ho, _ => by simp [ownA] at ho
  | .bool b, v, ho, _ => by simp [ownA] at ho
  | .tt, v, ho, _ => by simp [ownA] at ho
  | .ff, v, ho, _ => by simp [ownA] at ho
  | .str s, v, ho, _ => by simp [ownA] at ho
  | .nil, v, ho, _ => by simp [ownA] at ho
  | .sl none c, v, ho, _ => by simp [ownA] at ho
  | .undef, v, ho, _ => by simp [ownA] at ho
  | .skip, v, ho, _ => by simp [ownA] at ho
  | .prm k c, v, ho, _ => by simp [ownA] at ho
  | .ref b n, v, ho, _ => by simp [ownA] at ho
  | .ptr b off, v, ho, _ => by simp [ownA] at ho
  | .rp b n i, v, ho, _ => by simp [ownA] at ho
  | .ep x, v, ho, _ => by simp [ownA] at ho
  | .pv cs off, v, ho, _ => by simp [ownA] at ho
  | .clo f caps, v, ho, _ => by simp [ownA] at ho
theorem thawL_one {e : TypeId} {c : SC} : ∀ (xs : List AV) (us : List Value), ownL xs = some [(e, c)] → RelL w M F g vals xs us →
    ∃ u, Vw w M F (some e) u c ∧ ∀ (M' F' : Nat → Prop) (g' : Gh) (vals' : List Value), g'.gh 0 c.len = some u → RelL w M' F' g' vals' (thawL xs) us
  | [], us, ho, _ => by simp [ownL] at ho
  | x :: r, us, ho, h => by
    obtain ⟨a, b, ha, hb, e'⟩ := own_split ho
    simp only [RelL] at h
    obtain ⟨u, us', rfl, hx, hr⟩ := h
    cases a with
    | nil =>
      simp at e'; subst e'
      obtain ⟨q, hq, hk⟩ := thawL_one r us' hb hr
      exact ⟨q, hq, fun M' F' g' vals' hg => by simp only [thawL]; exact RelL.cons (thaw_none x u ha hx) (hk M' F' g' vals' hg)⟩
    | cons y z =>
      simp at e'
      obtain ⟨rfl, hz⟩ := e'
      obtain ⟨rfl, rfl⟩ := hz
      obtain ⟨q, hq, hk⟩ := thaw_one x u ha hx
      exact ⟨q, hq, fun M' F' g' vals' hg => by simp only [thawL]; exact RelL.cons (hk M' F' g' vals' hg) (thawL_none r us' hb hr)⟩
end

/-! Arguments that say the same whatever is fresh. -/
mutual
def calmA : AV → Bool
  | .int _ _ | .bool _ | .tt | .ff | .str _ | .nil => true
  | .sl none (.ints _ _) => true
  | .sl none (.rows none _) => true
  | .agg xs => calmL xs
  | _ => false
def calmL : List AV → Bool
  | [] => true
  | x :: r => calmA x && calmL r
end

mutual
theorem calm_rel : ∀ (x : AV) (v : Value), calmA x = true → Rel w M F g vals x v → Rel w M F' g vals x v
  | .int k n, v, _, h => by simp only [Rel] at h ⊢; exact h
  | .bool b, v, _, h => by simp only [Rel] at h ⊢; exact h
  | .tt, v, _, h => by simp only [Rel] at h ⊢; exact h
  | .ff, v, _, h => by simp only [Rel] at h ⊢; exact h
  | .str s, v, _, h => by simp only [Rel] at h ⊢; exact h
  | .nil, v, _, h => by simp only [Rel] at h ⊢; exact h
  | .sl none (.ints k xs), v, _, h => by
    simp only [Rel] at h ⊢
    obtain ⟨⟨a, cap, e, h1, h2, h3⟩, _⟩ := h
    exact ⟨⟨a, cap, e, h1, h2, fun i hi => let ⟨u, hu, he⟩ := h3 i hi; ⟨u, hu, he⟩⟩, trivial⟩
  | .sl none (.rows none xs), v, _, h => by
    simp only [Rel] at h ⊢
    obtain ⟨⟨a, cap, e, h1, h2, h3⟩, _⟩ := h
    refine ⟨⟨a, cap, e, h1, h2, fun i hi => ?_⟩, trivial⟩
    obtain ⟨u, hu, he⟩ := h3 i hi
    exact ⟨u, hu, ⟨he.1, trivial⟩⟩
  | .agg xs, v, hc, h => by
    simp only [calmA] at hc; simp only [Rel] at h ⊢
    obtain ⟨us, e, hr⟩ := h
    exact ⟨us, e, calmL_rel xs us hc hr⟩
  | .sl none (.rows (some f) xs), v, hc, _ => by simp [calmA] at hc
  | .sl none (.strs xs), v, hc, _ => by simp [calmA] at hc
  | .sl (some e) c, v, hc, _ => by simp [calmA] at hc
  | .tup xs, v, hc, _ => by simp [calmA] at hc
  | .undef, v, hc, _ => by simp [calmA] at hc
  | .skip, v, hc, _ => by simp [calmA] at hc
  | .prm k c, v, hc, _ => by simp [calmA] at hc
  | .ref b n, v, hc, _ => by simp [calmA] at hc
  | .ptr b off, v, hc, _ => by simp [calmA] at hc
  | .rp b n i, v, hc, _ => by simp [calmA] at hc
  | .ep x, v, hc, _ => by simp [calmA] at hc
  | .pv cs off, v, hc, _ => by simp [calmA] at hc
  | .clo f caps, v, hc, _ => by simp [calmA] at hc
theorem calmL_rel : ∀ (xs : List AV) (us : List Value), calmL xs = true → RelL w M F g vals xs us → RelL w M F' g vals xs us
  | [], us, _, h => by simp only [RelL] at h ⊢; exact h
  | x :: r, us, hc, h => by
    simp only [calmL, Bool.and_eq_true] at hc
    simp only [RelL] at h
    obtain ⟨u, us', rfl, hx, hr⟩ := h
    exact RelL.cons (calm_rel x u hc.1 hx) (calmL_rel r us' hc.2 hr)
end
end

def oneGh (n : Nat) (a : Option Addr) (cap : Nat) : Gh where
  gh b k := if b = 0 ∧ k = n then some (.slice a n cap) else none
  bb _ := none
  gi _ _ := False
  one b k v h := by
    split at h
    · rename_i e; cases h; rw [e.2]; exact ⟨_, _, rfl⟩
    · cases h

theorem thawGh {w w' : World} {g : Gh} {vals : List Value} {F0 : Nat → Prop} {e : TypeId} {k : IntKind} {xs : List Int} {u : Value} (hu : Vw w' (Mut g (getB [])) (fun k => False ∨ w.heap.size ≤ k) (some e) u (.ints k xs)) :
    ∃ g2 : Gh, g2.gh 0 xs.length = some u ∧ (∀ b, g2.bb b = none) ∧ (∀ b n, g2.gh (b + 1) n = none) ∧
      (∀ b, BxR w' (Mut g2 (getB [.row e (.ints k xs)])) (fun k => F0 k ∨ w.heap.size ≤ k) g2 vals b (getB [.row e (.ints k xs)] b)) ∧
      (∀ b k', AliveB g2 (getB [.row e (.ints k xs)]) b k' → b = 0 ∧ w.heap.size ≤ k') := by
  obtain ⟨⟨a, cap, rfl, h1, h2, h3⟩, hs⟩ := hu
  change Shape _ _ _ e (.slice a xs.length cap) at hs
  change xs.length ≤ cap at h1
  change ∀ i, i < xs.length → _ at h3
  refine ⟨oneGh xs.length a cap, by simp [oneGh, SC.len], fun b => rfl, fun b n => by simp [oneGh], fun b => ?_, fun b k' hb => ?_⟩
  · cases b with
    | succ b => exact ⟨rfl, fun n => by simp [oneGh]⟩
    | zero =>
      refine ⟨rfl, fun n hn => ?_, ?_⟩
      · have hn : xs.length < n := hn
        have : ¬ n = xs.length := by omega
        simp [oneGh, this]
      · rcases hs with hs | ⟨kb, n, c0, cur, hv, hh, hc, hf, hm⟩
        · simp only [Value.slice.injEq] at hs
          obtain ⟨rfl, he, rfl⟩ := hs
          left
          exact ⟨he, by simp [oneGh, he]⟩
        · simp only [Value.slice.injEq] at hv
          obtain ⟨rfl, rfl, rfl⟩ := hv
          right
          refine ⟨kb, cap, cur, by simp [oneGh, SC.len], hh, hc, h1, h2, .inr (hf.resolve_left id), fun i hi => ?_⟩
          obtain ⟨u, hcell, he⟩ := h3 i hi
          obtain ⟨ad, had, _, _, hcl⟩ := hcell
          cases had
          refine ⟨u, ?_, he⟩
          have := hcl
          rw [World.cell?, hh] at this
          simpa using this
  · cases b with
    | succ b => simp [AliveB, getB, AliveX] at hb
    | zero =>
      refine ⟨rfl, ?_⟩
      obtain ⟨c0, hc0⟩ := hb
      have hc0 : (oneGh xs.length a cap).gh 0 xs.length = some (.slice (some ⟨k', 0, none⟩) xs.length c0) := hc0
      simp only [oneGh, and_self, ↓reduceIte, Option.some.injEq, Value.slice.injEq, true_and] at hc0
      obtain ⟨rfl, rfl⟩ := hc0
      rcases hs with hs | ⟨kb, n, c1, cur, hv, hh, hc, hf, hm⟩
      · simp at hs
      · simp only [Value.slice.injEq, Option.some.injEq, Addr.mk.injEq, and_true] at hv
        rw [hv.1]; exact hf.resolve_left id

/-- The callee's own row is the caller's to write. -/
theorem ARuns_thaw {P : Program} {f : FuncId} {args : List AV} {r : AV} {e : TypeId} {k : IntKind} {xs : List Int} (h : ARuns P f args [] r []) (ha : calmL args = true) (ho : ownA r = some [(e, .ints k xs)]) :
    ARuns P f args [] (thawA r) [.row e (.ints k xs)] := by
  refine ⟨h.1, fun w vals F0 g hF hB hx hr hglo => ?_⟩
  refine (h.2 w vals (fun _ => False) g (fun k hk => hk.elim) (fun b => by
    have := hB b
    cases b <;> exact this) hx (calmL_rel _ _ ha hr) hglo).mono fun ex w' hq => ?_
  obtain ⟨v, g', e1, hfr, hle, hb, hxx, hal, hrel⟩ := hq
  have hM : ∀ g : Gh, ∀ k, ¬ Mut g (getB []) k := fun g k ⟨b, hb⟩ => by cases b <;> exact hb
  have eM : Mut g' (getB []) = Mut g (getB []) := by funext k; exact propext ⟨fun h => (hM _ _ h).elim, fun h => (hM _ _ h).elim⟩
  obtain ⟨u, hu, hk⟩ := thaw_one r v ho hrel
  rw [eM] at hu
  obtain ⟨g2, h2a, h2b, h2c, h2d, h2e⟩ := thawGh (F0 := F0) (vals := vals ++ cellsAt w g 0 []) hu
  refine ⟨v, g2, e1, hfr, ?_, h2d, fun b b' k h h' => by rw [(h2e b k h).1, (h2e b' k h').1], fun b k h => .inr (h2e b k h).2, hk _ _ _ _ h2a⟩
  have hn : ∀ b, g.bb b = none ∧ ∀ n, g.gh b n = none := fun b => by
    have := hB b
    cases b <;> exact this
  refine And.intro ?_ ?_
  · intro b k hk
    rw [(hn b).1] at hk; cases hk
  · intro b n v hv
    rw [(hn b).2 n] at hv; cases hv

/-! A nil slice in a lent variable is an own row of no length. -/
def nilsTo : List AV → List AV → Prop
  | [], ys => ys = []
  | x :: r, ys => ∃ y s, ys = y :: s ∧ (x = y ∨ (x = .nil ∧ ∃ e c, y = .sl (some e) c ∧ c.len = 0) ∨ (x = .ff ∧ y = .bool false)) ∧ nilsTo r s

theorem nil_own {w : World} {M F : Nat → Prop} {e : TypeId} {c : SC} (hc : c.len = 0) : Vw w M F (some e) (.slice none 0 0) c :=
  ⟨⟨none, 0, by rw [hc], by omega, Nat.zero_le _, fun i hi => absurd hi (by omega)⟩, .inl rfl⟩

theorem nils_rel {w : World} {M F : Nat → Prop} {g : Gh} {args : List Value} : ∀ {xs ys : List AV} {us : List Value}, nilsTo xs ys → RelL w M F g args xs us → RelL w M F g args ys us
  | [], ys, us, h, hr => by simp only [nilsTo] at h; subst h; exact hr
  | x :: r, ys, us, h, hr => by
    simp only [nilsTo] at h
    obtain ⟨y, s, rfl, h1, h2⟩ := h
    simp only [RelL] at hr
    obtain ⟨u, us', rfl, hx, hr⟩ := hr
    refine RelL.cons ?_ (nils_rel h2 hr)
    rcases h1 with rfl | ⟨rfl, e, c, rfl, hc⟩ | ⟨rfl, rfl⟩
    · exact hx
    · simp only [Rel] at hx ⊢; subst hx; exact nil_own hc
    · simp only [Rel] at hx ⊢; exact hx

def bxTo : Bx → Bx → Prop
  | .box cs, y => ∃ cs', y = .box cs' ∧ nilsTo cs cs'
  | x, y => x = y
def nilsG : List Bx → List Bx → Prop
  | [], ys => ys = []
  | x :: r, ys => ∃ y s, ys = y :: s ∧ bxTo x y ∧ nilsG r s
theorem nilsG_get : ∀ {l l' : List Bx}, nilsG l l' → ∀ b, bxTo (getB l b) (getB l' b)
  | [], l', h, b => by simp only [nilsG] at h; subst h; simp [getB, bxTo]
  | x :: r, l', h, b => by
    simp only [nilsG] at h
    obtain ⟨y, s, rfl, h1, h2⟩ := h
    cases b with
    | zero => exact h1
    | succ b => exact nilsG_get h2 b
theorem bxTo_alive {g : Gh} {b k : Nat} {x y : Bx} (h : bxTo x y) : AliveX g b x k = AliveX g b y k := by
  cases x
  case box cs => obtain ⟨cs', rfl, _⟩ := h; rfl
  all_goals (cases h; rfl)

theorem nilsG_cells {w : World} {g : Gh} : ∀ {l l' : List Bx} (b : Nat), nilsG l l' → cellsAt w g b l = cellsAt w g b l'
  | [], l', b, h => by simp only [nilsG] at h; subst h; rfl
  | x :: r, l', b, h => by
    simp only [nilsG] at h
    obtain ⟨y, s, rfl, h1, h2⟩ := h
    have ih := nilsG_cells (w := w) (g := g) (b + 1) h2
    cases x
    case box cs => obtain ⟨cs', rfl, _⟩ := h1; simp only [cellsAt, ih]
    all_goals (cases h1; simp only [cellsAt, ih])

theorem ARuns_nilsG {P : Program} {f : FuncId} {args : List AV} {giv giv' : List Bx} {r : AV} {outs : List Bx} (h : ARuns P f args giv' r outs) (hn : nilsG giv giv') : ARuns P f args giv r outs := by
  have hb := nilsG_get hn
  refine ⟨h.1, fun w vals F0 g hF hB hx hr hglo => ?_⟩
  have eA : AliveB g (getB giv) = AliveB g (getB giv') := by
    funext b k; exact bxTo_alive (hb b)
  have eM : Mut g (getB giv) = Mut g (getB giv') := by unfold Mut; rw [eA]
  rw [eA] at hx
  rw [eM] at hB hr hglo ⊢
  rw [nilsG_cells 0 hn]
  refine h.2 w vals F0 g hF (fun b => ?_) hx hr hglo
  have h1 := hB b
  have h2 := hb b
  revert h1 h2
  generalize getB giv b = x
  generalize getB giv' b = y
  intro h1 h2
  cases x
  case box cs =>
    obtain ⟨cs', rfl, hc⟩ := h2
    obtain ⟨h1, k, cur, e, h2, h3, h4⟩ := h1
    exact ⟨h1, k, cur, e, h2, h3, nils_rel hc h4⟩
  all_goals (cases h2; exact h1)
theorem ARuns_nils {P : Program} {f : FuncId} {args : List AV} {cs cs' : List AV} {r : AV} {outs : List Bx} (h : ARuns P f args [.box cs'] r outs) (hn : nilsTo cs cs') : ARuns P f args [.box cs] r outs :=
  ARuns_nilsG h ⟨_, _, rfl, ⟨_, rfl, hn⟩, rfl⟩

/-! A function's end, nil slices made rows ahead of it even where nothing goes out. -/
def afinL (P : Program) (m : Nat) (res : List ResultVar) (r : AV) (outs : List Bx) (s : St) : Prop := ∃ ls, okLifts ls s = true ∧ afin0 P m res r outs (lifts ls s)
theorem afinL_of {P : Program} {m : Nat} {res : List ResultVar} {r : AV} {outs : List Bx} {s : St} (ls : List (Nat × TypeId × SC)) (keep : List Nat) (hk : okKeep keep m = true) {xs : List AV} (hls : okLifts ls s = true) (hx : resL P (lifts ls s) res = some xs)
    (hr : cv keep (lifts ls s).bf (pack xs) = r) (ho : (keep.map fun b => cvB keep (lifts ls s).bf (getB (lifts ls s).bx b)) = outs) : afinL P m res r outs s := ⟨ls, hls, keep, xs, hk, hx, hr, ho⟩

theorem ARuns_bcL {P : Program} {Γ : Gm} (hΓ : Γ.ok P) {f : FuncId} {c : Code} {args : List AV} {giv : List Bx} {r : AV} {outs : List Bx} {n : Nat} {res : List ResultVar} (hf : FnIs P f n res c)
    (hle : args.length ≤ n) (h : lensA args → lensB giv → bc P Γ giv.length (afinL P giv.length res r outs) c [] (afinL P giv.length res r outs) ⟨entryE 0 args, entryB args.length giv⟩) : ARuns P f args giv r outs := by
  obtain ⟨fn, h1, h2, h3, h4⟩ := hf.ok
  refine ARuns_of h1 hf.callable h2 h3 hle rfl h4 fun l1 l2 C hN hm a w hs => ?_
  have fin0 : ∀ s a w, Holds C s a w → afin0 P C.m res r outs s → fexit P C res r outs a w := fun s a w hs ⟨keep, xs, hk, hx, hr, ho⟩ => ⟨s, xs, keep, hs, hk, hx, hr, ho⟩
  have fin : ∀ s a w, Holds C s a w → afinL P C.m res r outs s → fexit P C res r outs a w := fun s a w hs ⟨ls, hls, h⟩ => fin0 _ a w (hs.lifts ls hls) h
  replace h := h l1 l2
  rw [← hm] at h
  obtain ⟨hfo, hco⟩ := Bool.and_eq_true_iff.1 hf.code
  exact bc_sound hΓ hfo c (hN ▸ hco) [] _ _ (fun s a w hs hk => fin s a w hs hk) (fun s a w hs hk => fin s a w hs hk) (fun n s a w hs hl => hl.elim) _ h a w hs

end AM
end Go.Proofs.YtbookhehpebcmaaGreatDoor
