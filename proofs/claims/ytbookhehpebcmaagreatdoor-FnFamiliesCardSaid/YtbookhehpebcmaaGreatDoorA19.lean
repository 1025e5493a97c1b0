/-
  An abstract machine over the kit's Code.wp, and its soundness: part 19, a function's beginning and end.
-/
import Derived.Test.YtbookhehpebcmaaGreatDoorA18
namespace Go.Proofs.YtbookhehpebcmaaGreatDoor
namespace AM
set_option linter.unusedVariables false
set_option linter.unusedSimpArgs false

mutual
theorem Rel.noargs {w : World} {M F F' : Nat → Prop} {g : Gh} {args : List Value} (hF : ∀ k, F k → F' k) : ∀ (x : AV) (v : Value), Rel w M F g [] x v → Rel w M F' g args x v
  | .undef, v, h => by simp only [Rel]
  | .skip, v, h => by simp only [Rel] at h ⊢; exact h
  | .int k n, v, h => by simp only [Rel] at h ⊢; exact h
  | .bool b, v, h => by simp only [Rel] at h ⊢; exact h
  | .tt, v, h => by simp only [Rel] at h ⊢; exact h
  | .ff, v, h => by simp only [Rel] at h ⊢; exact h
  | .str s, v, h => by simp only [Rel] at h ⊢; exact h
  | .nil, v, h => by simp only [Rel] at h ⊢; exact h
  | .sl fr c, v, h => by simp only [Rel] at h ⊢; exact h.mono ⟨Nat.le_refl _, fun _ _ _ => rfl, fun _ _ h => h, fun k _ _ h => hF k h⟩
  | .prm k c, v, h => by simp only [Rel] at h; simp at h
  | .ref b n, v, h => by simp only [Rel] at h ⊢; exact h
  | .ptr b off, v, h => by simp only [Rel] at h ⊢; exact h
  | .rp b n i, v, h => by simp only [Rel] at h ⊢; exact h
  | .ep x, v, h => by
    simp only [Rel] at h ⊢
    obtain ⟨ad, u, h1, h2, h3, h4, h5⟩ := h
    exact ⟨ad, u, h1, h2, h3, h4, Rel.noargs hF x u h5⟩
  | .pv cells off, v, h => by
    simp only [Rel] at h ⊢
    obtain ⟨k, us, h1, h2, h3, h4, h5⟩ := h
    exact ⟨k, us, h1, h2, h3, h4, RelL.noargs hF cells us h5⟩
  | .agg xs, v, h => by
    simp only [Rel] at h ⊢
    obtain ⟨us, h1, h2⟩ := h
    exact ⟨us, h1, RelL.noargs hF xs us h2⟩
  | .tup xs, v, h => by
    simp only [Rel] at h ⊢
    obtain ⟨us, h1, h2⟩ := h
    exact ⟨us, h1, RelL.noargs hF xs us h2⟩
  | .clo f caps, v, h => by
    simp only [Rel] at h ⊢
    obtain ⟨us, h1, h2⟩ := h
    exact ⟨us, h1, RelL.noargs hF caps us h2⟩
theorem RelL.noargs {w : World} {M F F' : Nat → Prop} {g : Gh} {args : List Value} (hF : ∀ k, F k → F' k) : ∀ (xs : List AV) (us : List Value), RelL w M F g [] xs us → RelL w M F' g args xs us
  | [], us, h => by simp only [RelL] at h ⊢; exact h
  | x :: r, us, h => by
    simp only [RelL] at h ⊢
    obtain ⟨u, us', hu, hx, hr⟩ := h
    exact ⟨u, us', hu, Rel.noargs hF x u hx, RelL.noargs hF r us' hr⟩
end

theorem BxR.noargs {w : World} {M F F' : Nat → Prop} {g : Gh} {args : List Value} (hF : ∀ k, F k → F' k) {b : Nat} {x : Bx} (h : BxR w M F g [] b x) : BxR w M F' g args b x := by
  have K : Keeps w M F w M F' := ⟨Nat.le_refl _, fun _ _ _ => rfl, fun _ _ h => h, fun k _ _ h => hF k h⟩
  cases x with
  | none => exact h
  | box cells => obtain ⟨h1, k, cur, e, h2, h3, h4⟩ := h; exact ⟨h1, k, cur, e, h2, h3, RelL.noargs hF _ _ h4⟩
  | dbox cells => obtain ⟨h1, k, us, h2, h3, h4, h5, h6⟩ := h; exact ⟨h1, k, us, h2, h3, h4, RelL.noargs hF _ _ h5, h6⟩
  | row e c =>
    obtain ⟨h1, h2, h3⟩ := h
    refine ⟨h1, h2, ?_⟩
    rcases h3 with h3 | ⟨k, cap, cur, a0, a1, a2, a3, a4, a5, a6⟩
    · exact .inl h3
    · exact .inr ⟨k, cap, cur, a0, a1, a2, a3, a4, hF k a5, fun i hi => let ⟨u, hu, he⟩ := a6 i hi; ⟨u, hu, he.mono K⟩⟩
  | drow e c => obtain ⟨h1, h2, v, h3, h4⟩ := h; exact ⟨h1, h2, v, h3, h4.mono K⟩
  | grid e t xss => obtain ⟨h1, h2, h3, h4⟩ := h; exact ⟨h1, h2, fun k hk => ⟨(h3 k hk).1, hF k (h3 k hk).2⟩, h4⟩
  | gone => trivial

/-- What a parameter is within the function: its own slice is known again. -/
def inPrm (i : Nat) : AV → AV
  | .sl none c => .prm i c
  | x => x

def entryE : Nat → List AV → List (Nat × AV)
  | _, [] => []
  | i, x :: r => (i, inPrm i x) :: entryE (i + 1) r

theorem getE_entry : ∀ (l : List AV) (i t : Nat), getE (entryE i l) t = if i ≤ t ∧ t < i + l.length then inPrm t (l.getD (t - i) .undef) else .undef
  | [], i, t => by simp [entryE, getE]; intro h1 h2; omega
  | x :: r, i, t => by
    simp only [entryE, getE, List.length_cons]
    by_cases h : i = t
    · subst h; simp
    · rw [if_neg h, getE_entry r (i + 1) t]
      by_cases h2 : i + 1 ≤ t ∧ t < i + 1 + r.length
      · rw [if_pos h2, if_pos ⟨by omega, by omega⟩]
        obtain ⟨k, rfl⟩ : ∃ k, t = i + 1 + k := ⟨t - (i + 1), by omega⟩
        have e1 : i + 1 + k - (i + 1) = k := by omega
        have e2 : i + 1 + k - i = k + 1 := by omega
        rw [e1, e2]; simp
      · rw [if_neg h2, if_neg (by omega)]

def inPrms : Nat → List AV → List AV
  | _, [] => []
  | i, x :: r => inPrm i x :: inPrms (i + 1) r
/-- The same of the variables that are lent. -/
def entryB : Nat → List Bx → List Bx
  | _, [] => []
  | i, .box cs :: r => .box (inPrms i cs) :: entryB (i + cs.length) r
  | i, x :: r => x :: entryB i r

theorem inPrms_rel {w : World} {M F F' : Nat → Prop} {g : Gh} {args : List Value} (hF : ∀ k, F k → F' k) : ∀ (cs : List AV) (us : List Value) (i : Nat), RelL w M F g [] cs us → (∀ j v, us[j]? = some v → args[i + j]? = some v) → RelL w M F' g args (inPrms i cs) us
  | [], us, i, h, _ => by simp only [RelL] at h; simp only [inPrms, RelL]; exact h
  | x :: r, us, i, h, ha => by
    simp only [RelL] at h
    obtain ⟨u, us', rfl, hx, hr⟩ := h
    simp only [inPrms]
    refine RelL.cons ?_ (inPrms_rel hF r us' (i + 1) hr fun j v hj => by
      have := ha (j + 1) v (by simpa using hj)
      rwa [show i + 1 + j = i + (j + 1) by omega])
    have hv : args[i]? = some u := ha 0 u rfl
    have hx' := Rel.noargs (args := args) hF _ _ hx
    unfold inPrm
    split
    · simp only [Rel] at hx' ⊢; exact ⟨hx', hv⟩
    · exact hx'

theorem entry_alive {g : Gh} {k : Nat} : ∀ (giv : List Bx) (i b b' : Nat), AliveX g b' (getB (entryB i giv) b) k = AliveX g b' (getB giv b) k
  | [], i, b, b' => rfl
  | x :: r, i, b, b' => by
    cases b with
    | zero => cases x <;> rfl
    | succ b => cases x <;> simp only [entryB, getB] <;> exact entry_alive r _ b b'

def boxB : Bx → Bool
  | .box _ => true
  | _ => false
theorem entry_bx_skip {w : World} {M F F' : Nat → Prop} {g : Gh} {args : List Value} (hF : ∀ k, F k → F' k) (x : Bx) (r : List Bx) (i b0 : Nat) (hx : boxB x = false)
    (ih : (∀ j v, (cellsAt w g (b0 + 1) r)[j]? = some v → args[i + j]? = some v) → ∀ b, BxR w M F' g args (b0 + 1 + b) (getB (entryB i r) b))
    (h : ∀ b, BxR w M F g [] (b0 + b) (getB (x :: r) b)) (ha : ∀ j v, (cellsAt w g b0 (x :: r))[j]? = some v → args[i + j]? = some v) (b : Nat) : BxR w M F' g args (b0 + b) (getB (entryB i (x :: r)) b) := by
  have e1 : cellsAt w g b0 (x :: r) = cellsAt w g (b0 + 1) r := by cases x <;> first | rfl | simp [boxB] at hx
  have e2 : entryB i (x :: r) = x :: entryB i r := by cases x <;> first | rfl | simp [boxB] at hx
  rw [e1] at ha
  rw [e2]
  cases b with
  | zero => exact (h 0).noargs hF
  | succ b =>
    have := ih ha b
    rwa [show b0 + 1 + b = b0 + (b + 1) by omega] at this

theorem entry_bx {w : World} {M F F' : Nat → Prop} {g : Gh} {args : List Value} (hF : ∀ k, F k → F' k) : ∀ (giv : List Bx) (i b0 : Nat), (∀ b, BxR w M F g [] (b0 + b) (getB giv b)) → (∀ j v, (cellsAt w g b0 giv)[j]? = some v → args[i + j]? = some v) →
    ∀ b, BxR w M F' g args (b0 + b) (getB (entryB i giv) b)
  | [], i, b0, h, _, b => (h b).noargs hF
  | .box cs :: r, i, b0, h, ha, b => by
    obtain ⟨h1, k, cur, e, hk, hh, hr⟩ := h 0
    simp only [Nat.add_zero] at h1 hk
    simp only [cellsAt, hk, heapCells, hh] at ha
    have hlen := hr.length
    cases b with
    | zero => exact ⟨h1, k, cur, e, hk, hh, inPrms_rel hF cs _ i hr fun j v hj => ha j v (by rw [List.getElem?_append_left (List.getElem?_eq_some_iff.1 hj).1]; exact hj)⟩
    | succ b =>
      simp only [entryB, getB]
      rw [show b0 + (b + 1) = b0 + 1 + b by omega]
      refine entry_bx hF r (i + cs.length) (b0 + 1) (fun b => ?_) (fun j v hj => ?_) b
      · have := h (b + 1)
        rwa [show b0 + (b + 1) = b0 + 1 + b by omega] at this
      · have := ha (cur.toList.length + j) v (by rw [List.getElem?_append_right (by omega)]; simpa using hj)
        rwa [show i + cs.length + j = i + (cur.toList.length + j) by omega]
  | .none :: r, i, b0, h, ha, b => entry_bx_skip hF .none r i b0 rfl (fun ha => entry_bx hF r i (b0 + 1) (fun b => by have := h (b + 1); rwa [show b0 + (b + 1) = b0 + 1 + b by omega] at this) ha) h ha b
  | .dbox cs :: r, i, b0, h, ha, b => entry_bx_skip hF (.dbox cs) r i b0 rfl (fun ha => entry_bx hF r i (b0 + 1) (fun b => by have := h (b + 1); rwa [show b0 + (b + 1) = b0 + 1 + b by omega] at this) ha) h ha b
  | .row e c :: r, i, b0, h, ha, b => entry_bx_skip hF (.row e c) r i b0 rfl (fun ha => entry_bx hF r i (b0 + 1) (fun b => by have := h (b + 1); rwa [show b0 + (b + 1) = b0 + 1 + b by omega] at this) ha) h ha b
  | .drow e c :: r, i, b0, h, ha, b => entry_bx_skip hF (.drow e c) r i b0 rfl (fun ha => entry_bx hF r i (b0 + 1) (fun b => by have := h (b + 1); rwa [show b0 + (b + 1) = b0 + 1 + b by omega] at this) ha) h ha b
  | .grid e t xss :: r, i, b0, h, ha, b => entry_bx_skip hF (.grid e t xss) r i b0 rfl (fun ha => entry_bx hF r i (b0 + 1) (fun b => by have := h (b + 1); rwa [show b0 + (b + 1) = b0 + 1 + b by omega] at this) ha) h ha b
  | .gone :: r, i, b0, h, ha, b => entry_bx_skip hF .gone r i b0 rfl (fun ha => entry_bx hF r i (b0 + 1) (fun b => by have := h (b + 1); rwa [show b0 + (b + 1) = b0 + 1 + b by omega] at this) ha) h ha b

/-- What is returned, before it is told to the caller. -/
def resC (bx : List Bx) : Ty → AV → Option AV
  | .one _, .ptr b off => match getB bx b with
    | .box cs => if off < cs.length then some (cs.getD off .undef) else none
    | _ => none
  | .flat zs, .ptr b off => match getB bx b with
    | .box cs => if off = 0 ∧ cs.length = zs.length then some (.agg cs) else none
    | _ => none
  | _, _ => none

def resV (P : Program) (s : St) : ResultVar → Option AV
  | .tmp t => some (getE s.env t)
  | .cell a t => resC s.bx (tyOf P t) (getE s.env a)

def resL (P : Program) (s : St) : List ResultVar → Option (List AV)
  | [] => some []
  | x :: r => match resV P s x with
    | some v => match resL P s r with
      | some vs => some (v :: vs)
      | none => none
    | none => none

def pack : List AV → AV
  | [x] => x
  | xs => .tup xs

/-- What a function must have come to at its end. -/
def fexit (P : Program) (C : Cx) (res : List ResultVar) (r : AV) (outs : List Bx) (a : Act) (w : World) : Prop :=
  ∃ s xs keep, Holds C s a w ∧ okKeep keep C.m = true ∧ resL P s res = some xs ∧ cv keep s.bf (pack xs) = r ∧ (keep.map fun b => cvB keep s.bf (getB s.bx b)) = outs

theorem aret_of {P : Program} {C : Cx} {res : List ResultVar} {r : AV} {outs : List Bx} {s : St} (keep : List Nat) {m : Nat} (hm : C.m = m) (hk : okKeep keep m = true)
    {xs : List AV} (hx : resL P s res = some xs) (hr : cv keep s.bf (pack xs) = r) (ho : (keep.map fun b => cvB keep s.bf (getB s.bx b)) = outs) : aret C (fexit P C res r outs) s :=
  fun a w hs => ⟨s, xs, keep, hs, hm ▸ hk, hx, hr, ho⟩

def resM (tmps : Array Value) : ResultVar → Sem Value
  | .tmp t => pure (tmps.getD t undef)
  | .cell d t => do loadVar t (← asAddr (tmps.getD d undef))

section
variable {P : Program} {C : Cx} {a : Act} {w : World}

theorem resV_run {s : St} {g : Gh} (h : Gam C s.sl s.bf g a w) {rv : ResultVar} {x : AV} (hx : resV P s rv = some x) :
    ∃ v, (resM a.tmps rv).run P w = .ok v w ∧ Rel w (Mut g s.bf) C.F g C.args x v := by
  cases rv with
  | tmp t => simp only [resV, Option.some.injEq] at hx; subst hx; exact ⟨_, rfl, h.sls t⟩
  | cell d t =>
    simp only [resV] at hx
    have hs := h.sls d
    simp only [St.sl] at hs
    generalize hv : getE s.env d = p at hx hs
    cases ht : tyOf P t with
    | one z =>
      rw [ht] at hx
      cases p with
      | ptr b off =>
        simp only [resC] at hx
        have hb := h.bxs b
        simp only [St.bf] at hb
        generalize hbx : getB s.bx b = y at hx hb
        cases y with
        | box cs =>
          simp only at hx
          split at hx
          · rename_i hl
            cases hx
            obtain ⟨_, k, cur, e, hk, hh, hr⟩ := hb
            simp only [Rel] at hs
            obtain ⟨k', hk', hv'⟩ := hs
            rw [hk] at hk'; cases hk'
            have hlen := hr.length
            have hu : ∃ u, cur.toList[off]? = some u := ⟨cur.toList[off]'(by omega), List.getElem?_eq_getElem _⟩
            obtain ⟨u, hu⟩ := hu
            refine ⟨u, ?_, hr.get hu⟩
            have := run_load_one (P := P) ht (box_cell (b := b) (cells := cs) hh hu)
            simpa [resM, hv', asAddr, Instr.loadAt, Instr.sureAddr] using this
          · cases hx
        | _ => cases hx
      | _ => cases hx
    | flat zs =>
      rw [ht] at hx
      cases p with
      | ptr b off =>
        simp only [resC] at hx
        have hb := h.bxs b
        simp only [St.bf] at hb
        generalize hbx : getB s.bx b = y at hx hb
        cases y with
        | box cs =>
          simp only at hx
          split at hx
          · rename_i hl
            obtain ⟨rfl, hl⟩ := hl
            cases hx
            obtain ⟨_, k, cur, e, hk, hh, hr⟩ := hb
            simp only [Rel] at hs
            obtain ⟨k', hk', hv'⟩ := hs
            rw [hk] at hk'; cases hk'
            have hlen := hr.length
            refine ⟨.agg cur.toList.toArray, ?_, by simp only [Rel]; exact ⟨_, rfl, hr⟩⟩
            have := run_load_flat (P := P) ht (k := k) (us := cur.toList) (by rw [hlen, hl]) (fun i u hi => box_cell (b := b) (cells := cs) hh hi)
            simpa [resM, hv', asAddr, Instr.loadAt, Instr.sureAddr] using this
          · cases hx
        | _ => cases hx
      | _ => cases hx
    | bad => rw [ht] at hx; cases p <;> cases hx

theorem resL_run {s : St} {g : Gh} (h : Gam C s.sl s.bf g a w) : ∀ {res : List ResultVar} {xs : List AV}, resL P s res = some xs →
    ∃ vs, (res.mapM (resM a.tmps)).run P w = .ok vs w ∧ RelL w (Mut g s.bf) C.F g C.args xs vs
  | [], xs, hx => by cases hx; exact ⟨[], rfl, by simp only [RelL]⟩
  | rv :: r, xs, hx => by
    simp only [resL] at hx
    cases h1 : resV P s rv with
    | none => rw [h1] at hx; cases hx
    | some x =>
      rw [h1] at hx; simp only at hx
      cases h2 : resL P s r with
      | none => rw [h2] at hx; cases hx
      | some ys =>
        rw [h2] at hx; cases hx
        obtain ⟨v, hv, hrel⟩ := resV_run h h1
        obtain ⟨vs, hvs, hrels⟩ := resL_run h h2
        refine ⟨v :: vs, ?_, RelL.cons hrel hrels⟩
        rw [List.mapM_cons]
        simp only [Sem.run_bind, hv, hvs, Sem.run_pure, Result.andThen_ok]

theorem results_run {s : St} {g : Gh} (h : Gam C s.sl s.bf g a w) {fn : Func} {xs : List AV} (hx : resL P s fn.results.toList = some xs) :
    ∃ v, (results fn a.tmps).run P w = .ok v w ∧ Rel w (Mut g s.bf) C.F g C.args (pack xs) v := by
  obtain ⟨vs, hvs, hr⟩ := resL_run h hx
  have hm : (fn.results.mapM (resM a.tmps)).run P w = .ok vs.toArray w := by
    rw [Array.mapM_eq_mapM_toList]
    simp only [map_eq_pure_bind, Sem.run_bind, hvs, Result.andThen_ok, Sem.run_pure]
  have e : results fn a.tmps = (do
      let vs ← fn.results.mapM (resM a.tmps)
      pure (if h : vs.size = 1 then vs[0] else .tuple vs)) := by
    unfold results
    congr 1
  rw [e]
  simp only [Sem.run_bind, hm, Result.andThen_ok, Sem.run_pure]
  refine ⟨_, rfl, ?_⟩
  have hl := hr.length
  match xs, vs, hr, hl with
  | [], [], hr, _ => simp only [pack, Rel]; exact ⟨[], rfl, by simp only [RelL]⟩
  | [x], [v], hr, _ =>
    simp only [RelL] at hr
    obtain ⟨u, us, e, h1, rfl⟩ := hr
    cases e
    simpa [pack] using h1
  | x :: y :: xs, v :: u :: vs, hr, _ => simp only [pack, Rel]; exact ⟨_, by simp, hr⟩
end

/-! Lengths that are known of whatever is handed in. -/
def lenSC : SC → Prop
  | .ints _ xs => xs.length ≤ 9223372036854775807
  | .rows _ xss => xss.length ≤ 9223372036854775807 ∧ ∀ xs ∈ xss, xs.length ≤ 9223372036854775807
  | .strs ss => ss.length ≤ 9223372036854775807
mutual
def lenA : AV → Prop
  | .sl _ c => lenSC c
  | .prm _ c => lenSC c
  | .agg xs => lensA xs
  | .undef | .skip | .int _ _ | .bool _ | .tt | .ff | .str _ | .nil | .ref _ _ | .ptr _ _ | .rp _ _ _ | .ep _ | .pv _ _ | .tup _ | .clo _ _ => True
def lensA : List AV → Prop
  | [] => True
  | x :: r => lenA x ∧ lensA r
end
def lenB : Bx → Prop
  | .row _ c => lenSC c
  | .drow _ c => lenSC c
  | .grid _ _ xss => xss.length ≤ 9223372036854775807
  | _ => True
def lensB : List Bx → Prop
  | [] => True
  | x :: r => lenB x ∧ lensB r

theorem VwI.len {w : World} {M F : Nat → Prop} {fr : Option TypeId} {v : Value} {xs : List Int} (h : VwI w M F fr v xs) : xs.length ≤ 9223372036854775807 := by
  obtain ⟨⟨a, cap, _, h1, h2, _⟩, _⟩ := h
  have : maxLen = 9223372036854775807 := rfl
  omega

theorem Vw.lenSC {w : World} {M F : Nat → Prop} {fr : Option TypeId} {v : Value} {c : SC} (h : Vw w M F fr v c) : lenSC c := by
  obtain ⟨⟨a, cap, _, h1, h2, h3⟩, _⟩ := h
  have : maxLen = 9223372036854775807 := rfl
  cases c with
  | ints k xs => simp only [SC.len] at h1; simp only [AM.lenSC]; omega
  | strs ss => simp only [SC.len] at h1; simp only [AM.lenSC]; omega
  | rows f xss =>
    simp only [SC.len] at h1 h3; simp only [AM.lenSC]
    refine ⟨by omega, fun xs hxs => ?_⟩
    obtain ⟨i, hi, rfl⟩ := List.mem_iff_getElem.1 hxs
    obtain ⟨u, _, he⟩ := h3 i hi
    simp only [ElR] at he
    have := he.len
    simpa [List.getD_eq_getElem?_getD, hi] using this

mutual
theorem Rel.lens {w : World} {M F : Nat → Prop} {g : Gh} {args : List Value} : ∀ {x : AV} {v : Value}, Rel w M F g args x v → lenA x
  | .sl _ c, v, h => by simp only [Rel] at h; simp only [lenA]; exact h.lenSC
  | .prm _ c, v, h => by simp only [Rel] at h; simp only [lenA]; exact h.1.lenSC
  | .agg xs, v, h => by simp only [Rel] at h; obtain ⟨us, _, h⟩ := h; simp only [lenA]; exact RelL.lens h
  | .undef, _, _ | .skip, _, _ | .int _ _, _, _ | .bool _, _, _ | .tt, _, _ | .ff, _, _ | .str _, _, _ | .nil, _, _ | .ref _ _, _, _ | .ptr _ _, _, _ | .rp _ _ _, _, _ | .ep _, _, _ | .pv _ _, _, _ | .tup _, _, _ | .clo _ _, _, _ => by simp only [lenA]
theorem RelL.lens {w : World} {M F : Nat → Prop} {g : Gh} {args : List Value} : ∀ {xs : List AV} {us : List Value}, RelL w M F g args xs us → lensA xs
  | [], us, h => by simp only [lensA]
  | x :: r, us, h => by
    simp only [RelL] at h
    obtain ⟨u, us', rfl, h1, h2⟩ := h
    simp only [lensA]
    exact ⟨Rel.lens h1, RelL.lens h2⟩
end

theorem BxR.lenB {w : World} {M F : Nat → Prop} {g : Gh} {args : List Value} {b : Nat} {x : Bx} (h : BxR w M F g args b x) : lenB x := by
  cases x with
  | row e c =>
    obtain ⟨_, _, h3⟩ := h
    have : maxLen = 9223372036854775807 := rfl
    simp only [AM.lenB]
    rcases h3 with ⟨h0, _⟩ | ⟨k, cap, cur, _, _, _, a2, a3, _, a5⟩
    · cases c with
      | ints k xs => simp only [SC.len] at h0; simp only [AM.lenSC]; omega
      | strs ss => simp only [SC.len] at h0; simp only [AM.lenSC]; omega
      | rows f xss =>
        simp only [SC.len] at h0
        have : xss = [] := List.length_eq_zero_iff.1 h0
        subst this
        simp [AM.lenSC]
    · cases c with
      | ints k xs => simp only [SC.len] at a2; simp only [AM.lenSC]; omega
      | strs ss => simp only [SC.len] at a2; simp only [AM.lenSC]; omega
      | rows f xss =>
        simp only [SC.len] at a2 a5; simp only [AM.lenSC]
        refine ⟨by omega, fun xs hxs => ?_⟩
        obtain ⟨i, hi, rfl⟩ := List.mem_iff_getElem.1 hxs
        obtain ⟨u, _, he⟩ := a5 i hi
        simp only [ElR] at he
        have := he.len
        simpa [List.getD_eq_getElem?_getD, hi] using this
  | drow e c => obtain ⟨_, _, v, _, h4⟩ := h; exact h4.lenSC
  | grid e t xss =>
    obtain ⟨_, _, _, v, _, h4⟩ := h
    have : maxLen = 9223372036854775807 := rfl
    simp only [AM.lenB]
    rcases h4 with ⟨h0, _⟩ | ⟨k, cap, cur, ks, _, _, _, h1, h2, _⟩ <;> omega
  | _ => trivial

theorem lensB_of {P : Bx → Prop} : ∀ {l : List Bx}, (∀ b, lenB (getB l b)) → lensB l
  | [], _ => trivial
  | x :: r, h => ⟨h 0, lensB_of (P := P) fun b => h (b + 1)⟩

/-- THE CONTRACT OF A FUNCTION, from its code. -/
theorem ARuns_of {P : Program} {f : FuncId} {fn : Func} {c : Code} {args : List AV} {giv : List Bx} {r : AV} {outs : List Bx} {n m : Nat}
    (hf : P.funcs[f]? = some fn) (hcall : callable P f = true) (hb : fn.body = some c) (hn : fn.ntmps = n) (hle : args.length ≤ n) (hm : giv.length = m) {res : List ResultVar} (hres : fn.results = res.toArray)
    (h : lensA args → lensB giv → ∀ C : Cx, C.N = n → C.m = m → awp P C (fexit P C res r outs) c [] ⟨entryE 0 args, entryB args.length giv⟩) : ARuns P f args giv r outs := by
  refine ⟨hcall, fun w vals F0 g hF0 hbx hex hargs hglo => ?_⟩
  have hnone : ∀ i, m ≤ i → g.bb i = none ∧ ∀ k, g.gh i k = none := fun i hi => by
    have := hbx i
    rw [getB_none (by omega)] at this
    exact this
  let C : Cx := { N := n, w0 := w, G := Mut g (getB giv), F := fun k => F0 k ∨ w.heap.size ≤ k, args := vals ++ cellsAt w g 0 giv, gi := g, m := m, mok := hnone, glo := hglo }
  have hlen := hargs.length
  have key : ∀ R : Ending → World → Prop, (∀ a w', fexit P C res r outs a w' → bodyPost P fn R .normal a w') → Calls P f vals.toArray w R := fun R fin => ?_
  · refine key _ ?_
    rintro a' w' ⟨s, xs, keep, ⟨g1, hG⟩, hk, hx, hr, ho⟩
    obtain ⟨v, hv, hrel⟩ := results_run hG (fn := fn) (xs := xs) (by rw [hres]; exact hx)
    have hk' := hk
    simp only [okKeep, Bool.and_eq_true, decide_eq_true_eq, List.all_eq_true, List.mem_range, beq_iff_eq] at hk
    have hgi : C.gi.le (subGh g1 keep) := by
      refine ⟨fun b k hb => ?_, fun b n v hv => ?_⟩
      · by_cases hm : b < C.m
        · simp only [subGh, hk.2 b hm]; exact hG.gle.1 b k hb
        · rw [(C.mok b (by omega)).1] at hb; cases hb
      · by_cases hm : b < C.m
        · simp only [subGh, hk.2 b hm]; exact hG.gle.2 b n v hv
        · rw [(C.mok b (by omega)).2 n] at hv; cases hv
    obtain ⟨hG2, hM⟩ := hG.conv keep hk.1 hgi (fun _ => .undef) fun _ => .inr rfl
    have ho' : (keep.map fun b => cvB keep s.bf (s.bf b)) = outs := ho
    rw [ho'] at hG2 hM
    have hrel2 := cv_rel hG hM _ v hrel
    rw [hr] at hrel2
    exact ⟨hG.defers, v, hv, v, subGh g1 keep, rfl, hG.fr, hG2.gle, hG2.bxs, hG2.excl, hG2.own, hrel2⟩
  refine calls_of_wp hf hb ?_
  have hF : ∀ k, F0 k → C.F k := fun k h => .inl h
  have eA : AliveB g (getB (entryB args.length giv)) = AliveB g (getB giv) := by funext b k; exact entry_alive giv _ b b
  have eM : Mut g (getB (entryB args.length giv)) = Mut g (getB giv) := by unfold Mut; rw [eA]
  have hs : Holds C ⟨entryE 0 args, entryB args.length giv⟩ { tmps := vals.toArray ++ Array.replicate (fn.ntmps - vals.toArray.size) undef, defers := [] } w := by
    refine ⟨g, Frame0.refl _ _, ?_, rfl, fun k hk => .inr hk, fun t => ?_, fun b => ?_, (by change ∀ b b' k, AliveB g (getB (entryB args.length giv)) b k → AliveB g (getB (entryB args.length giv)) b' k → b = b'; rw [eA]; exact hex), fun b k ha => .inl ⟨b, by change AliveB g (getB (entryB args.length giv)) b k at ha; rw [eA] at ha; exact ha⟩, g.le_refl⟩
    · simp only [Array.size_append, List.size_toArray, Array.size_replicate, C]; omega
    · simp only [St.sl]
      rw [getE_entry]
      split
      · rename_i ht
        have ht : t < args.length := by omega
        have hv : vals[t]? = some (vals[t]'(by omega)) := List.getElem?_eq_getElem _
        have hget : (vals.toArray ++ Array.replicate (fn.ntmps - vals.toArray.size) undef).getD t undef = vals[t]'(by omega) := by
          rw [Array.getD_eq_getD_getElem?, Array.getElem?_append_left (by simpa using by omega)]
          simp [hv]
        rw [hget, Nat.sub_zero]
        have hr := (hargs.get hv)
        have hr' := Rel.noargs (args := vals ++ cellsAt w g 0 giv) hF _ _ hr
        have hv' : (vals ++ cellsAt w g 0 giv)[t]? = some (vals[t]'(by omega)) := by rw [List.getElem?_append_left (by omega)]; exact hv
        generalize args.getD t .undef = x at hr'
        change Rel w (Mut g (getB (entryB args.length giv))) C.F g C.args _ _
        rw [eM]
        unfold inPrm
        split
        · simp only [Rel] at hr' ⊢; exact ⟨hr', hv'⟩
        · exact hr'
      · simp only [Rel]
    · have key := entry_bx (args := vals ++ cellsAt w g 0 giv) hF giv args.length 0 (fun b => by rw [Nat.zero_add]; exact hbx b) (fun j v hj => by rw [← hlen, List.getElem?_append_right (by omega), Nat.add_sub_cancel_left]; exact hj) b
      rw [Nat.zero_add] at key
      change BxR w (Mut g (getB (entryB args.length giv))) C.F g C.args b (getB (entryB args.length giv) b)
      rw [eM]
      exact key
  refine wp_mono (h hargs.lens (lensB_of (P := fun _ => True) fun b => (hbx b).lenB) C rfl rfl _ _ hs) fun e a' w' hq => ?_
  cases e with
  | normal => exact fin _ _ hq
  | ret => exact fin _ _ hq
  | exit id => exact hq.elim
  | goto l => exact hq.elim
  | panic ch => exact hq.elim
  | outgrown => exact hq.elim

end AM
end Go.Proofs.YtbookhehpebcmaaGreatDoor
