/-
  An abstract machine over the kit's Code.wp, and its soundness: part 17, what is forgotten of a state; code.
-/
import Derived.Test.YtbookhehpebcmaaGreatDoorA16
namespace Go.Proofs.YtbookhehpebcmaaGreatDoor
namespace AM
set_option linter.unusedVariables false
set_option linter.unusedSimpArgs false

mutual
/-- A value, once but the blocks 'keep' are numbered (anew, in that order). -/
def cv (keep : List Nat) (bx : Nat → Bx) : AV → AV
  | .ref b n => match idx keep b with
    | some i => .ref i n
    | none => still bx (.ref b n)
  | .ptr b off => match idx keep b with
    | some i => .ptr i off
    | none => .undef
  | .rp _ _ _ => .undef
  | .ep x => .ep (cv keep bx x)
  | .pv cs off => .pv (cvL keep bx cs) off
  | .agg xs => .agg (cvL keep bx xs)
  | .tup xs => .tup (cvL keep bx xs)
  | .clo f caps => .clo f (cvL keep bx caps)
  | .undef => .undef
  | .skip => .skip
  | .int k n => .int k n
  | .bool b => .bool b
  | .tt => .bool true
  | .ff => .bool false
  | .str s => .str s
  | .nil => .nil
  | .sl fr c => .sl fr c
  | .prm k c => .prm k c
def cvL (keep : List Nat) (bx : Nat → Bx) : List AV → List AV
  | [] => []
  | x :: r => cv keep bx x :: cvL keep bx r
end

def cvB (keep : List Nat) (bx : Nat → Bx) : Bx → Bx
  | .box cs => .box (cvL keep bx cs)
  | .dbox cs => .dbox (cvL keep bx cs)
  | x => x

/-- What is kept of a state: some slots, some blocks (numbered anew). -/
def St.conv (slots keep : List Nat) (s : St) : St :=
  ⟨slots.map fun k => (k, cv keep s.bf (getE s.env k)), keep.map fun b => cvB keep s.bf (getB s.bx b)⟩

section
variable {C : Cx} {sl : Nat → AV} {bx : Nat → Bx} {g : Gh} {a : Act} {w : World}

/-- A row that is no longer numbered reads as a lasting view. -/
theorem still_out (h : Gam C sl bx g a w) {keep : List Nat} {M' : Nat → Prop} (hM : ∀ k, M' k → ∃ b ∈ keep, AliveB g bx b k) {b n : Nat} (hb : b ∉ keep) {v : Value} (hv : g.gh b n = some v) {g' : Gh} {args : List Value} : Rel w M' C.F g' args (still bx (.ref b n)) v := by
  have hM1 : ∀ k, M' k → Mut g bx k := fun k hk => let ⟨b, _, ha⟩ := hM k hk; ⟨b, ha⟩
  have K : Keeps w (Mut g bx) C.F w M' C.F := ⟨Nat.le_refl _, fun _ _ _ => rfl, fun k _ hm => hM1 k hm, fun _ _ _ h => h⟩
  have hbx := h.bxs b
  simp only [still]
  split
  · rename_i e c hbe
    split
    · rename_i hl; subst hl
      simp only [Rel]
      rw [hbe] at hbx
      obtain ⟨_, _, h3⟩ := hbx
      rcases h3 with ⟨h0, hn⟩ | ⟨k, cap, cur, hk, hh, a1, a2, a3, a4, a5⟩
      · rw [h0, hn] at hv; cases hv
        exact ⟨⟨none, 0, by rw [h0], by rw [h0]; exact Nat.le_refl _, Nat.zero_le _, fun i hi => by omega⟩, .inl rfl⟩
      · rw [hk] at hv; cases hv
        have ha : AliveB g bx b k := by unfold AliveB; rw [hbe]; exact ⟨cap, hk⟩
        have hn : ¬ M' k := fun hm => by
          obtain ⟨b', hb', ha'⟩ := hM k hm
          exact hb (h.excl b b' k ha ha' ▸ hb')
        refine ⟨⟨_, cap, rfl, a2, a3, fun i hi => ?_⟩, .inr ⟨k, _, cap, cur, rfl, hh, a1, a4, hn⟩⟩
        obtain ⟨u, hu, he⟩ := a5 i hi
        refine ⟨u, ⟨⟨k, 0, none⟩, rfl, rfl, hn, ?_⟩, he.mono K⟩
        rw [Nat.zero_add, cell_of_row w k i cur e (0, 0) hh]; exact hu
    · simp only [Rel]
  · rename_i e c hbe
    split
    · rename_i hl; subst hl
      simp only [Rel]
      rw [hbe] at hbx
      obtain ⟨_, _, v', hv', hw⟩ := hbx
      rw [hv'] at hv; cases hv; exact hw.mono K
    · simp only [Rel]
  · simp only [Rel]

mutual
theorem cv_rel (h : Gam C sl bx g a w) {keep : List Nat} {M' : Nat → Prop} (hM : ∀ k, M' k → ∃ b ∈ keep, AliveB g bx b k) : ∀ (x : AV) (v : Value), Rel w (Mut g bx) C.F g C.args x v → Rel w M' C.F (subGh g keep) C.args (cv keep bx x) v
  | .ref b n, v, hx => by
    simp only [Rel] at hx
    simp only [cv]
    split
    · rename_i i hi; simp only [Rel, subGh, idx_some hi]; exact hx
    · rename_i hi; exact still_out h hM (idx_none hi) hx
  | .ptr b off, v, hx => by
    simp only [Rel] at hx
    simp only [cv]
    split
    · rename_i i hi; obtain ⟨k, hk, rfl⟩ := hx; simp only [Rel, subGh, idx_some hi]; exact ⟨k, hk, rfl⟩
    · simp only [Rel]
  | .rp b n i, v, hx => by simp only [cv, Rel]
  | .ep x, v, hx => by
    simp only [Rel] at hx; simp only [cv, Rel]
    obtain ⟨ad, u, h1, h2, h3, h4, h5⟩ := hx
    exact ⟨ad, u, h1, h2, fun hm => h3 (let ⟨b, _, ha⟩ := hM _ hm; ⟨b, ha⟩), h4, cv_rel h hM x u h5⟩
  | .pv cs off, v, hx => by
    simp only [Rel] at hx; simp only [cv, Rel]
    obtain ⟨k, us, h1, h2, h3, h4, h5⟩ := hx
    exact ⟨k, us, h1, h2, fun hm => h3 (let ⟨b, _, ha⟩ := hM _ hm; ⟨b, ha⟩), h4, cvL_rel h hM cs us h5⟩
  | .agg xs, v, hx => by
    simp only [Rel] at hx; simp only [cv, Rel]
    obtain ⟨us, h1, h2⟩ := hx
    exact ⟨us, h1, cvL_rel h hM xs us h2⟩
  | .tup xs, v, hx => by
    simp only [Rel] at hx; simp only [cv, Rel]
    obtain ⟨us, h1, h2⟩ := hx
    exact ⟨us, h1, cvL_rel h hM xs us h2⟩
  | .clo f caps, v, hx => by
    simp only [Rel] at hx; simp only [cv, Rel]
    obtain ⟨us, h1, h2⟩ := hx
    exact ⟨us, h1, cvL_rel h hM caps us h2⟩
  | .undef, v, hx => by simp only [cv, Rel]
  | .skip, v, hx => by simp only [Rel] at hx; simp only [cv, Rel]; exact hx
  | .int k n, v, hx => by simp only [Rel] at hx; simp only [cv, Rel]; exact hx
  | .bool b, v, hx => by simp only [Rel] at hx; simp only [cv, Rel]; exact hx
  | .tt, v, hx => by simp only [Rel] at hx; simp only [cv, Rel]; exact hx
  | .ff, v, hx => by simp only [Rel] at hx; simp only [cv, Rel]; exact hx
  | .str s, v, hx => by simp only [Rel] at hx; simp only [cv, Rel]; exact hx
  | .nil, v, hx => by simp only [Rel] at hx; simp only [cv, Rel]; exact hx
  | .sl fr c, v, hx => by
    have K : Keeps w (Mut g bx) C.F w M' C.F := ⟨Nat.le_refl _, fun _ _ _ => rfl, fun k _ hm => let ⟨b, _, ha⟩ := hM k hm; ⟨b, ha⟩, fun _ _ _ h => h⟩
    simp only [Rel] at hx; simp only [cv, Rel]; exact hx.mono K
  | .prm k c, v, hx => by
    have K : Keeps w (Mut g bx) C.F w M' C.F := ⟨Nat.le_refl _, fun _ _ _ => rfl, fun k _ hm => let ⟨b, _, ha⟩ := hM k hm; ⟨b, ha⟩, fun _ _ _ h => h⟩
    simp only [Rel] at hx; simp only [cv, Rel]; exact ⟨hx.1.mono K, hx.2⟩
theorem cvL_rel (h : Gam C sl bx g a w) {keep : List Nat} {M' : Nat → Prop} (hM : ∀ k, M' k → ∃ b ∈ keep, AliveB g bx b k) : ∀ (xs : List AV) (us : List Value), RelL w (Mut g bx) C.F g C.args xs us → RelL w M' C.F (subGh g keep) C.args (cvL keep bx xs) us
  | [], us, hx => by simp only [RelL] at hx; simp only [cvL, RelL]; exact hx
  | x :: r, us, hx => by
    simp only [RelL] at hx
    obtain ⟨u, us', rfl, h1, h2⟩ := hx
    simp only [cvL]
    exact RelL.cons (cv_rel h hM x u h1) (cvL_rel h hM r us' h2)
end

theorem Gam.conv (h : Gam C sl bx g a w) (keep : List Nat) (hnd : keep.Nodup) (hgi : C.gi.le (subGh g keep)) (sl' : Nat → AV) (hsl : ∀ t, sl' t = cv keep bx (sl t) ∨ sl' t = .undef) :
    Gam C sl' (getB (keep.map fun b => cvB keep bx (bx b))) (subGh g keep) a w ∧ ∀ k, Mut (subGh g keep) (getB (keep.map fun b => cvB keep bx (bx b))) k → ∃ b ∈ keep, AliveB g bx b k := by
  have hgiv : ∀ i b, keep[i]? = some b → getB (keep.map fun b => cvB keep bx (bx b)) i = cvB keep bx (bx b) := fun i b hi => getB_some (by simp [hi])
  have hgivn : ∀ i, keep[i]? = none → getB (keep.map fun b => cvB keep bx (bx b)) i = .none := fun i hi => getB_none (by simpa using hi)
  have hal : ∀ i k, AliveB (subGh g keep) (getB (keep.map fun b => cvB keep bx (bx b))) i k ↔ ∃ b, keep[i]? = some b ∧ AliveB g bx b k := by
    intro i k
    cases hi : keep[i]? with
    | none => unfold AliveB; rw [hgivn i hi]; simp [AliveX]
    | some b =>
      unfold AliveB; rw [hgiv i b hi]
      cases hx : bx b <;> simp [cvB, AliveX, subGh, hi, hx]
  have hM : ∀ k, Mut (subGh g keep) (getB (keep.map fun b => cvB keep bx (bx b))) k → ∃ b ∈ keep, AliveB g bx b k := by
    rintro k ⟨i, hi⟩; obtain ⟨b, hb, ha⟩ := (hal i k).1 hi; exact ⟨b, List.mem_of_getElem? hb, ha⟩
  refine ⟨?_, hM⟩
  generalize hMM : Mut (subGh g keep) (getB (keep.map fun b => cvB keep bx (bx b))) = M' at hM
  have K : Keeps w (Mut g bx) C.F w M' C.F := ⟨Nat.le_refl _, fun _ _ _ => rfl, fun k _ hm => let ⟨b, _, ha⟩ := hM k hm; ⟨b, ha⟩, fun _ _ _ h => h⟩
  refine ⟨h.fr, h.slots, h.defers, h.fresh, fun t => ?_, fun i => ?_, ?_, ?_, hgi⟩
  · rw [hMM]
    rcases hsl t with e | e
    · rw [e]; exact cv_rel h hM _ _ (h.sls t)
    · rw [e]; simp only [Rel]
  · rw [hMM]
    cases hi : keep[i]? with
    | none => rw [hgivn i hi]; exact ⟨by simp [subGh, hi], fun n => by simp [subGh, hi]⟩
    | some b =>
      rw [hgiv i b hi]
      have hbx := h.bxs b
      cases hx : bx b
      case none => rw [hx] at hbx; exact ⟨by simp only [subGh, hi]; exact hbx.1, fun n => by simp only [subGh, hi]; exact hbx.2 n⟩
      case box cells =>
        rw [hx] at hbx
        obtain ⟨b1, k, cur, e, hk, hh, hr⟩ := hbx
        exact ⟨fun n => by simp only [subGh, hi]; exact b1 n, k, cur, e, by simp only [subGh, hi]; exact hk, hh, cvL_rel h hM _ _ hr⟩
      case dbox cells =>
        rw [hx] at hbx
        obtain ⟨b1, k, us, hk, hl, hm, hr, hc⟩ := hbx
        exact ⟨fun n => by simp only [subGh, hi]; exact b1 n, k, us, by simp only [subGh, hi]; exact hk, hl, fun hm' => hm (K.mt k hl hm'), cvL_rel h hM _ _ hr, hc⟩
      case row e d =>
        rw [hx] at hbx
        obtain ⟨b1, b2, b3⟩ := hbx
        refine ⟨by simp only [subGh, hi]; exact b1, fun n hn => by simp only [subGh, hi]; exact b2 n hn, ?_⟩
        rcases b3 with ⟨h0, hn⟩ | ⟨k, cap, cur, hv', hh, a1, a2, a3, a4, a5⟩
        · exact .inl ⟨h0, by simp only [subGh, hi]; exact hn⟩
        · exact .inr ⟨k, cap, cur, by simp only [subGh, hi]; exact hv', hh, a1, a2, a3, a4, fun j hj => let ⟨u, hu, he⟩ := a5 j hj; ⟨u, hu, he.mono K⟩⟩
      case gone => trivial
      case grid e t xss =>
        rw [hx] at hbx
        obtain ⟨b1, b2, b3, v, b4, b5⟩ := hbx
        have eg : (subGh g keep).gi i = g.gi b := by funext k; simp only [subGh, hi]
        exact ⟨by simp only [subGh, hi]; exact b1, fun n hn => by simp only [subGh, hi]; exact b2 n hn, fun k hk => by rw [eg] at hk; exact b3 k hk, v, by simp only [subGh, hi]; exact b4, by rw [eg]; exact b5⟩
      case drow e d =>
        rw [hx] at hbx
        obtain ⟨b1, b2, v, hv, hw⟩ := hbx
        exact ⟨by simp only [subGh, hi]; exact b1, fun n hn => by simp only [subGh, hi]; exact b2 n hn, v, by simp only [subGh, hi]; exact hv, hw.mono K⟩
  · intro i j k h1 h2
    obtain ⟨b1, hb1, ha1⟩ := (hal i k).1 h1
    obtain ⟨b2, hb2, ha2⟩ := (hal j k).1 h2
    have e := h.excl b1 b2 k ha1 ha2
    subst e
    obtain ⟨l1, e1⟩ := List.getElem?_eq_some_iff.1 hb1
    obtain ⟨l2, e2⟩ := List.getElem?_eq_some_iff.1 hb2
    have hp := List.pairwise_iff_getElem.1 hnd
    rcases Nat.lt_trichotomy i j with hlt | heq | hgt
    · exact absurd (e1.trans e2.symm) (hp i j l1 l2 hlt)
    · exact heq
    · exact absurd (e2.trans e1.symm) (hp j i l2 l1 hgt)
  · intro i k ha
    obtain ⟨b, hb, ha'⟩ := (hal i k).1 ha
    exact h.own b k ha'
end

theorem getE_map (f : Nat → AV) : ∀ (slots : List Nat) (t : Nat), getE (slots.map fun k => (k, f k)) t = f t ∨ getE (slots.map fun k => (k, f k)) t = .undef
  | [], t => .inr rfl
  | k :: r, t => by
    simp only [List.map_cons, getE]
    by_cases h : k = t
    · rw [if_pos h, h]; exact .inl rfl
    · rw [if_neg h]; exact getE_map f r t

/-- The lent blocks stay where they are. -/
def okKeep (keep : List Nat) (m : Nat) : Bool := decide keep.Nodup && (List.range m).all fun i => keep[i]? == some i

theorem Holds.conv {C : Cx} {s : St} {a : Act} {w : World} (h : Holds C s a w) (slots keep : List Nat) (hk : okKeep keep C.m = true) : Holds C (s.conv slots keep) a w := by
  obtain ⟨g, h⟩ := h
  simp only [okKeep, Bool.and_eq_true, decide_eq_true_eq, List.all_eq_true, List.mem_range, beq_iff_eq] at hk
  refine ⟨subGh g keep, (h.conv keep hk.1 ?_ _ (fun t => getE_map (fun k => cv keep s.bf (getE s.env k)) slots t)).1⟩
  refine ⟨fun b k hb => ?_, fun b n v hv => ?_⟩
  · by_cases hm : b < C.m
    · simp only [subGh, hk.2 b hm]; exact h.gle.1 b k hb
    · rw [(C.mok b (by omega)).1] at hb; cases hb
  · by_cases hm : b < C.m
    · simp only [subGh, hk.2 b hm]; exact h.gle.2 b n v hv
    · rw [(C.mok b (by omega)).2 n] at hv; cases hv

end AM
end Go.Proofs.YtbookhehpebcmaaGreatDoor
