/-
  An abstract machine over the kit's Code.wp, and its soundness: part 2, what lasts when the world grows.
-/
import Derived.Test.YtbookhehpebcmaaGreatDoorA1
namespace Go.Proofs.YtbookhehpebcmaaGreatDoor
namespace AM
set_option linter.unusedVariables false

/-- The world grows: what nobody may write stays, and no old block becomes writable. -/
structure Keeps (w : World) (M F : Nat → Prop) (w' : World) (M' F' : Nat → Prop) : Prop where
  size : w.heap.size ≤ w'.heap.size
  heap : ∀ k, k < w.heap.size → ¬ M k → w'.heap[k]? = w.heap[k]?
  mt : ∀ k, k < w.heap.size → M' k → M k
  fr : ∀ k, k < w.heap.size → ¬ M k → F k → F' k

section
variable {w w' : World} {M M' F F' : Nat → Prop} {g g' : Gh} {args : List Value}

theorem Keeps.refl (w : World) (M F : Nat → Prop) : Keeps w M F w M F := ⟨Nat.le_refl _, fun _ _ _ => rfl, fun _ _ h => h, fun _ _ _ h => h⟩

theorem lt_of_heap {w : World} {k : Nat} {o : Obj} (h : w.heap[k]? = some o) : k < w.heap.size := (Array.getElem?_eq_some_iff.1 h).1

theorem Keeps.cell (K : Keeps w M F w' M' F') {ad : Addr} {u : Value} (hm : ¬ M ad.block) (h : w.cell? ad = some u) : w'.cell? ad = some u := by
  have hl := World.block_lt_of_cell? w ad h
  rw [World.cell?_of_block (K.heap _ hl hm)]; exact h

theorem CellIs.mono (K : Keeps w M F w' M' F') {a : Option Addr} {i : Nat} {u : Value} (h : CellIs w M a i u) : CellIs w' M' a i u := by
  obtain ⟨ad, ha, hs, hm, hc⟩ := h
  have hl : ad.block < w.heap.size := World.block_lt_of_cell? w ⟨ad.block, ad.off + i, none⟩ hc
  exact ⟨ad, ha, hs, fun h => hm (K.mt _ hl h), K.cell (ad := ⟨ad.block, ad.off + i, none⟩) hm hc⟩

theorem Shape.mono (K : Keeps w M F w' M' F') {e : TypeId} {v : Value} (h : Shape w M F e v) : Shape w' M' F' e v := by
  rcases h with h | ⟨k, n, cap, cur, hv, hh, hc, hf, hm⟩
  · exact .inl h
  · have hl := lt_of_heap hh
    exact .inr ⟨k, n, cap, cur, hv, (K.heap _ hl hm).trans hh, hc, K.fr _ hl hm hf, fun h => hm (K.mt _ hl h)⟩

theorem Shapes.mono (K : Keeps w M F w' M' F') {v : Value} {fr : Option TypeId} (h : Shapes w M F v fr) : Shapes w' M' F' v fr := by
  cases fr with
  | none => trivial
  | some e => exact Shape.mono K h

theorem VwI.mono (K : Keeps w M F w' M' F') {fr : Option TypeId} {v : Value} {xs : List Int} (h : VwI w M F fr v xs) : VwI w' M' F' fr v xs := by
  obtain ⟨⟨a, cap, hv, h1, h2, h3⟩, hs⟩ := h
  exact ⟨⟨a, cap, hv, h1, h2, fun i hi => (h3 i hi).mono K⟩, hs.mono K⟩

theorem ElR.mono (K : Keeps w M F w' M' F') {c : SC} {i : Nat} {u : Value} (h : ElR w M F c i u) : ElR w' M' F' c i u := by
  cases c with
  | ints k xs => exact h
  | rows fr xss => exact VwI.mono K h
  | strs ss => exact h

theorem Vw.mono (K : Keeps w M F w' M' F') {fr : Option TypeId} {v : Value} {c : SC} (h : Vw w M F fr v c) : Vw w' M' F' fr v c := by
  obtain ⟨⟨a, cap, hv, h1, h2, h3⟩, hs⟩ := h
  exact ⟨⟨a, cap, hv, h1, h2, fun i hi => let ⟨u, hu, he⟩ := h3 i hi; ⟨u, hu.mono K, he.mono K⟩⟩, hs.mono K⟩

mutual
theorem Rel.mono (K : Keeps w M F w' M' F') (hg : g.le g') : ∀ (x : AV) (v : Value), Rel w M F g args x v → Rel w' M' F' g' args x v
  | .undef, _, _ => by simp only [Rel]
  | .skip, v, h => by simp only [Rel] at h ⊢; exact h
  | .int k n, v, h => by simp only [Rel] at h ⊢; exact h
  | .bool b, v, h => by simp only [Rel] at h ⊢; exact h
  | .tt, v, h => by simp only [Rel] at h ⊢; exact h
  | .ff, v, h => by simp only [Rel] at h ⊢; exact h
  | .str s, v, h => by simp only [Rel] at h ⊢; exact h
  | .nil, v, h => by simp only [Rel] at h ⊢; exact h
  | .sl fr c, v, h => by simp only [Rel] at h ⊢; exact h.mono K
  | .prm k c, v, h => by simp only [Rel] at h ⊢; exact ⟨h.1.mono K, h.2⟩
  | .ref b n, v, h => by simp only [Rel] at h ⊢; exact hg.2 _ _ _ h
  | .ptr b off, v, h => by simp only [Rel] at h ⊢; obtain ⟨k, hk, hv⟩ := h; exact ⟨k, hg.1 _ _ hk, hv⟩
  | .rp b n i, v, h => by simp only [Rel] at h ⊢; obtain ⟨hi, k, l, cap, hk, hv⟩ := h; exact ⟨hi, k, l, cap, hg.2 _ _ _ hk, hv⟩
  | .ep x, v, h => by
    simp only [Rel] at h ⊢
    obtain ⟨ad, u, hv, hs, hm, hc, hr⟩ := h
    have hl := World.block_lt_of_cell? w ad hc
    exact ⟨ad, u, hv, hs, fun h => hm (K.mt _ hl h), K.cell hm hc, Rel.mono K hg x u hr⟩
  | .pv cells off, v, h => by
    simp only [Rel] at h ⊢
    obtain ⟨k, us, hv, hk, hm, hc, hr⟩ := h
    exact ⟨k, us, hv, Nat.lt_of_lt_of_le hk K.size, fun h => hm (K.mt _ hk h), fun i u hi => K.cell (ad := ⟨k, i, none⟩) hm (hc i u hi), RelL.mono K hg cells us hr⟩
  | .agg xs, v, h => by
    simp only [Rel] at h ⊢
    obtain ⟨us, hv, hr⟩ := h
    exact ⟨us, hv, RelL.mono K hg xs us hr⟩
  | .tup xs, v, h => by
    simp only [Rel] at h ⊢
    obtain ⟨us, hv, hr⟩ := h
    exact ⟨us, hv, RelL.mono K hg xs us hr⟩
  | .clo f caps, v, h => by
    simp only [Rel] at h ⊢
    obtain ⟨us, hv, hr⟩ := h
    exact ⟨us, hv, RelL.mono K hg caps us hr⟩
theorem RelL.mono (K : Keeps w M F w' M' F') (hg : g.le g') : ∀ (xs : List AV) (us : List Value), RelL w M F g args xs us → RelL w' M' F' g' args xs us
  | [], us, h => by simp only [RelL] at h ⊢; exact h
  | x :: r, us, h => by
    simp only [RelL] at h ⊢
    obtain ⟨u, us', hu, hx, hr⟩ := h
    exact ⟨u, us', hu, Rel.mono K hg x u hx, RelL.mono K hg r us' hr⟩
end

theorem RelL.length {xs : List AV} {us : List Value} (h : RelL w M F g args xs us) : us.length = xs.length := by
  induction xs generalizing us with
  | nil => simp only [RelL] at h; subst h; rfl
  | cons x r ih => simp only [RelL] at h; obtain ⟨u, us', rfl, _, hr⟩ := h; simp [ih hr]

theorem RelL.get {xs : List AV} {us : List Value} (h : RelL w M F g args xs us) {i : Nat} {u : Value} (hu : us[i]? = some u) : Rel w M F g args (xs.getD i .undef) u := by
  induction xs generalizing us i with
  | nil => simp only [RelL] at h; subst h; simp at hu
  | cons x r ih =>
    simp only [RelL] at h; obtain ⟨u', us', rfl, hx, hr⟩ := h
    cases i with
    | zero => simp at hu; subst hu; simpa using hx
    | succ i => simp at hu; simpa using ih hr hu

theorem RelL.set {xs : List AV} {us : List Value} (h : RelL w M F g args xs us) (i : Nat) {x : AV} {u : Value} (hx : Rel w M F g args x u) : RelL w M F g args (xs.set i x) (us.set i u) := by
  induction xs generalizing us i with
  | nil => simp only [RelL] at h; subst h; simp [RelL]
  | cons y r ih =>
    simp only [RelL] at h; obtain ⟨u', us', rfl, hy, hr⟩ := h
    cases i with
    | zero => simp only [List.set_cons_zero, RelL]; exact ⟨u, us', rfl, hx, hr⟩
    | succ i => simp only [List.set_cons_succ, RelL]; exact ⟨u', _, rfl, hy, ih hr i⟩

theorem RelL.append {xs ys : List AV} {us vs : List Value} (h : RelL w M F g args xs us) (h' : RelL w M F g args ys vs) : RelL w M F g args (xs ++ ys) (us ++ vs) := by
  induction xs generalizing us with
  | nil => simp only [RelL] at h; subst h; simpa using h'
  | cons y r ih =>
    simp only [RelL] at h; obtain ⟨u', us', rfl, hy, hr⟩ := h
    simp only [List.cons_append, RelL]; exact ⟨u', _, rfl, hy, ih hr⟩

theorem RelL.cons {x : AV} {r : List AV} {u : Value} {us : List Value} (h : Rel w M F g args x u) (h' : RelL w M F g args r us) : RelL w M F g args (x :: r) (u :: us) := by
  simp only [RelL]; exact ⟨u, us, rfl, h, h'⟩

theorem GridR.mono {A : Nat → Prop} {e t : TypeId} {xss : List (List Int)} {v : Value} (hal : ∀ k, A k → w'.heap[k]? = w.heap[k]?) (h : GridR w A e t xss v) : GridR w' A e t xss v := by
  rcases h with h | ⟨k, cap, cur, ks, hv, hh, a1, a2, a3, a4, a5, a6, a7, a8⟩
  · exact .inl h
  · refine .inr ⟨k, cap, cur, ks, hv, (hal k a4).trans hh, a1, a2, a3, a4, a5, a6, a7, fun i hi => ?_⟩
    obtain ⟨capi, curi, b1, b2, b3, b4, b5, b6, b7⟩ := a8 i hi
    exact ⟨capi, curi, b1, (hal _ b6).trans b2, b3, b4, b5, b6, b7⟩

/-- A block that is not touched: its own memory is as it was. -/
theorem BxR.mono (K : Keeps w M F w' M' F') (hg : g.le g') {b : Nat} {x : Bx} (hgb : ∀ k, g'.bb b = some k → g.bb b = some k) (hgn : ∀ n v, g'.gh b n = some v → g.gh b n = some v)
    (hF : ∀ k, k < w.heap.size → AliveX g b x k → F k → F' k) (hal : ∀ k, k < w.heap.size → AliveX g b x k → w'.heap[k]? = w.heap[k]?)
    (h : BxR w M F g args b x) (hgi : g'.gi b = g.gi b := by rfl) : BxR w' M' F' g' args b x := by
  have none_bb : g.bb b = none → g'.bb b = none := fun h => by
    cases h' : g'.bb b with
    | none => rfl
    | some k => rw [hgb k h'] at h; cases h
  have none_gh : ∀ n, g.gh b n = none → g'.gh b n = none := fun n h => by
    cases h' : g'.gh b n with
    | none => rfl
    | some k => rw [hgn n k h'] at h; cases h
  cases x with
  | none => exact ⟨none_bb h.1, fun n => none_gh n (h.2 n)⟩
  | box cells =>
    obtain ⟨h1, k, cur, e, hk, hh, hr⟩ := h
    exact ⟨fun n => none_gh n (h1 n), k, cur, e, hg.1 _ _ hk, (hal k (lt_of_heap hh) hk).trans hh, hr.mono K hg⟩
  | dbox cells =>
    obtain ⟨h1, k, us, hk, hl, hm, hr, hc⟩ := h
    exact ⟨fun n => none_gh n (h1 n), k, us, hg.1 _ _ hk, Nat.lt_of_lt_of_le hl K.size, fun h => hm (K.mt _ hl h), hr.mono K hg, fun i u hi => K.cell (ad := ⟨k, i, none⟩) hm (hc i u hi)⟩
  | row e c =>
    obtain ⟨h1, h2, h3⟩ := h
    refine ⟨none_bb h1, fun n hn => none_gh n (h2 n hn), ?_⟩
    rcases h3 with ⟨h0, hn⟩ | ⟨k, cap, cur, hv, hh, a1, a2, a3, a4, a5⟩
    · exact .inl ⟨h0, hg.2 _ _ _ hn⟩
    · have hl := lt_of_heap hh
      exact .inr ⟨k, cap, cur, hg.2 _ _ _ hv, (hal k hl ⟨cap, hv⟩).trans hh, a1, a2, a3, hF _ hl ⟨cap, hv⟩ a4, fun i hi => let ⟨u, hu, he⟩ := a5 i hi; ⟨u, hu, he.mono K⟩⟩
  | grid e t xss =>
    obtain ⟨h1, h2, h3, v, hv, h4⟩ := h
    have hal' : ∀ k, g.gi b k → w'.heap[k]? = w.heap[k]? := fun k hk => hal k (h3 k hk).1 hk
    refine ⟨none_bb h1, fun n hn => none_gh n (h2 n hn), fun k hk => ?_, v, hg.2 _ _ _ hv, ?_⟩
    · rw [hgi] at hk
      exact ⟨Nat.lt_of_lt_of_le (h3 k hk).1 K.size, hF k (h3 k hk).1 hk (h3 k hk).2⟩
    · rw [hgi]; exact h4.mono hal'
  | gone => trivial
  | drow e c =>
    obtain ⟨h1, h2, v, hv, hw⟩ := h
    exact ⟨none_bb h1, fun n hn => none_gh n (h2 n hn), v, hg.2 _ _ _ hv, hw.mono K⟩
end

end AM
end Go.Proofs.YtbookhehpebcmaaGreatDoor
