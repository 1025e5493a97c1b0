/-
  An abstract machine over the kit's Code.wp, and its soundness: part 20, code as an equation for simp to reckon with.
-/
import Derived.Test.YtbookhehpebcmaaGreatDoorA29
namespace Go.Proofs.YtbookhehpebcmaaGreatDoor
namespace AM
set_option linter.unusedVariables false
set_option linter.unusedSimpArgs false

/-- An exit's continuation. -/
def lkX : List (Nat × (St → Prop)) → Nat → St → Prop
  | [], _, _ => False
  | (j, K) :: r, id, s => if j = id then K s else lkX r id s

/-- A loop's round must come to a smaller index. -/
def klp (m : Nat) {α : Type} (V : α → Prop) (I : α → St) (μ : α → Nat) (slots : List Nat) (keep : α → List Nat) (x : α) : St → Prop :=
  fun s' => ∃ ls kp y, (kp = keep y ∨ okKeep kp m = true) ∧ okLifts ls s' = true ∧ V y ∧ (lifts ls s').conv slots kp = I y ∧ μ y < μ x
def kreg (K : St → Prop) : St → List (List Nat) → Prop := fun s _ => K s

def kregD (l : List Oper) (K : St → Prop) : St → TrL → Prop := fun s tr => regR l tr tr ∧ K s

/-- The code from a state on: X the exits, R the return, K what comes behind. -/
def bc (P : Program) (Γ : Gm) (m : Nat) (R : St → Prop) : Code → List (Nat × (St → Prop)) → (St → Prop) → St → Prop
  | .skip, _, K, s => K s
  | .seq x y, X, K, s => bc P Γ m R x X (fun s => bc P Γ m R y X K s) s
  | .cond c x y, X, K, s => acond c s (fun s => bc P Γ m R x X K s) (fun s => bc P Γ m R y X K s)
  | .block id c, X, K, s => bc P Γ m R c ((id, K) :: X) K s
  | .exit id, X, _, s => lkX X id s
  | .ret, _, _, s => R s
  | .region _ ops false, _, K, s => aops P Γ ops.toList ops.toList s [] (kreg K)
  | .region _ ops true, _, K, s => aopsD P Γ ops.toList ops.toList 0 s [] fun s tr => regR ops.toList tr tr ∧ K s
  | .loop c, X, K, s => ∃ (α : Type) (V : α → Prop) (I : α → St) (μ : α → Nat) (slots : List Nat) (keep : α → List Nat) (ls : List (Nat × TypeId × SC)) (x0 : α),
      (∀ y, V y → okKeep (keep y) m = true) ∧ okLifts ls s = true ∧ (lifts ls s).conv slots (keep x0) = I x0 ∧ V x0 ∧ ∀ x, V x → bc P Γ m R c X (klp m V I μ slots keep x) (I x)
  | _, _, _, _ => False

/-- Named, so that simp does not look into it before its time. -/
def kcode (P : Program) (Γ : Gm) (m : Nat) (R : St → Prop) (c : Code) (X : List (Nat × (St → Prop))) (K : St → Prop) : St → Prop := fun s => bc P Γ m R c X K s

section
variable {P : Program} {Γ : Gm} {m : Nat} {R : St → Prop} {X : List (Nat × (St → Prop))} {K : St → Prop} {s : St}
theorem kcode_at {c : Code} : kcode P Γ m R c X K s = bc P Γ m R c X K s := id rfl
theorem kreg_at {ac : List (List Nat)} : kreg K s ac = K s := id rfl
theorem bc_skip : bc P Γ m R .skip X K s = K s := id rfl
theorem bc_seq {x y : Code} : bc P Γ m R (.seq x y) X K s = bc P Γ m R x X (kcode P Γ m R y X K) s := id rfl
theorem bc_cond {c : Operand} {x y : Code} : bc P Γ m R (.cond c x y) X K s = acond c s (kcode P Γ m R x X K) (kcode P Γ m R y X K) := id rfl
theorem bc_block {id : Nat} {c : Code} : bc P Γ m R (.block id c) X K s = bc P Γ m R c ((id, K) :: X) K s := rfl
theorem bc_exit {n : Nat} : bc P Γ m R (.exit n) X K s = lkX X n s := id rfl
theorem bc_ret : bc P Γ m R .ret X K s = R s := id rfl
theorem bc_region {n : Nat} {l : List Oper} : bc P Γ m R (.region n l.toArray false) X K s = aops P Γ l l s [] (kreg K) := id rfl
theorem bc_draw {n : Nat} {l : List Oper} : bc P Γ m R (.region n l.toArray true) X K s = aopsD P Γ l l 0 s [] (kregD l K) := id rfl
theorem kregD_at {l : List Oper} {tr : TrL} : kregD l K s tr = (regR l tr tr ∧ K s) := id rfl
theorem lkX_cons {j n : Nat} {K : St → Prop} : lkX ((j, K) :: X) n s = if j = n then K s else lkX X n s := id rfl

theorem bc_loopK {c : Code} {α : Type} (V : α → Prop) (I : α → St) (μ : α → Nat) (slots : List Nat) (keep : α → List Nat) (ls : List (Nat × TypeId × SC)) (x0 : α)
    (hk : ∀ y, V y → okKeep (keep y) m = true) (hls : okLifts ls s = true) (h0 : (lifts ls s).conv slots (keep x0) = I x0) (v0 : V x0) (step : ∀ x, V x → bc P Γ m R c X (klp m V I μ slots keep x) (I x)) : bc P Γ m R (.loop c) X K s :=
  ⟨α, V, I, μ, slots, keep, ls, x0, hk, hls, h0, v0, step⟩
theorem bc_loop {c : Code} {α : Type} (V : α → Prop) (I : α → St) (μ : α → Nat) (slots keep : List Nat) (x0 : α)
    (hk : okKeep keep m = true) (h0 : s.conv slots keep = I x0) (v0 : V x0) (step : ∀ x, V x → bc P Γ m R c X (klp m V I μ slots (fun _ => keep) x) (I x)) : bc P Γ m R (.loop c) X K s :=
  bc_loopK V I μ slots (fun _ => keep) [] x0 (fun _ _ => hk) rfl h0 v0 step
/-- The loop, nil slices made rows ahead of it. -/
theorem bc_loopN {c : Code} (ls : List (Nat × TypeId × SC)) {α : Type} (V : α → Prop) (I : α → St) (μ : α → Nat) (slots keep : List Nat) (x0 : α)
    (hk : okKeep keep m = true) (hls : okLifts ls s = true) (h0 : (lifts ls s).conv slots keep = I x0) (v0 : V x0) (step : ∀ x, V x → bc P Γ m R c X (klp m V I μ slots (fun _ => keep) x) (I x)) : bc P Γ m R (.loop c) X K s :=
  bc_loopK V I μ slots (fun _ => keep) ls x0 (fun _ _ => hk) hls h0 v0 step

/-- The round's end. -/
theorem klp_of {m : Nat} {α : Type} {V : α → Prop} {I : α → St} {μ : α → Nat} {slots : List Nat} {keep : α → List Nat} {x : α} (y : α) (h : s.conv slots (keep y) = I y) (hv : V y) (hm : μ y < μ x) : klp m V I μ slots keep x s :=
  ⟨[], _, y, .inl rfl, rfl, hv, h, hm⟩
theorem klp_ofN {m : Nat} {α : Type} {V : α → Prop} {I : α → St} {μ : α → Nat} {slots : List Nat} {keep : α → List Nat} {x : α} (ls : List (Nat × TypeId × SC)) (y : α) (hls : okLifts ls s = true) (h : (lifts ls s).conv slots (keep y) = I y) (hv : V y) (hm : μ y < μ x) : klp m V I μ slots keep x s :=
  ⟨ls, _, y, .inl rfl, hls, hv, h, hm⟩
/-- The round's end, other blocks kept. -/
theorem klp_ofK {m : Nat} {α : Type} {V : α → Prop} {I : α → St} {μ : α → Nat} {slots : List Nat} {keep : α → List Nat} {x : α} (kp : List Nat) (hk : okKeep kp m = true) (y : α) (h : s.conv slots kp = I y) (hv : V y) (hm : μ y < μ x) : klp m V I μ slots keep x s :=
  ⟨[], kp, y, .inr hk, rfl, hv, h, hm⟩
theorem klp_ofNK {m : Nat} {α : Type} {V : α → Prop} {I : α → St} {μ : α → Nat} {slots : List Nat} {keep : α → List Nat} {x : α} (ls : List (Nat × TypeId × SC)) (kp : List Nat) (hk : okKeep kp m = true) (y : α) (hls : okLifts ls s = true) (h : (lifts ls s).conv slots kp = I y) (hv : V y) (hm : μ y < μ x) : klp m V I μ slots keep x s :=
  ⟨ls, kp, y, .inr hk, hls, hv, h, hm⟩
end

/-- Every destination is a slot. -/
def codeOk (n : Nat) : Code → Bool
  | .seq x y => codeOk n x && codeOk n y
  | .cond _ x y => codeOk n x && codeOk n y
  | .block _ c => codeOk n c
  | .loop c => codeOk n c
  | .region _ ops draw => dstsOk ops.toList n && (!draw || regSt ops.toList)
  | _ => true

theorem loop_sound {P : Program} {C : Cx} {c : Code} {Q : Exit → Act → World → Prop} {α : Type} (V : α → Prop) (I : α → St) (μ : α → Nat) (slots : List Nat) (keep : α → List Nat) (ls : List (Nat × TypeId × SC)) (x0 : α) {s : St}
    (hk : ∀ y, V y → okKeep (keep y) C.m = true) (hls : okLifts ls s = true) (h0 : (lifts ls s).conv slots (keep x0) = I x0) (v0 : V x0)
    (step : ∀ x, V x → ∀ a w, Holds C (I x) a w → c.wp P (Exit.then (fun a w => ∃ s, Holds C s a w ∧ klp C.m V I μ slots keep x s) Q) a w) : ∀ a w, Holds C s a w → (Code.loop c).wp P Q a w := by
  intro a w hs
  have h1 : Holds C (I x0) a w := h0 ▸ (hs.lifts ls hls).conv slots (keep x0) (hk x0 v0)
  let A (a : Act) (w : World) (n : Nat) : Prop := ∃ x, V x ∧ Holds C (I x) a w ∧ μ x = n
  have key : ∀ a w, (∃ n, A a w n) → ∃ n, A a w n ∧ ∀ k, A a w k → n ≤ k := by
    intro a w ⟨n, hn⟩
    induction n using Nat.strongRecOn with
    | _ n ih =>
      by_cases hlt : ∃ k, k < n ∧ A a w k
      · obtain ⟨k, hk, ha⟩ := hlt; exact ih k hk ha
      · exact ⟨n, hn, fun k hk => Nat.le_of_not_lt fun h => hlt ⟨k, h, hk⟩⟩
  classical
  let M (a : Act) (w : World) : Nat := if h : ∃ n, A a w n then (key a w h).choose else 0
  refine wp_loop (fun a w => ∃ n, A a w n) M ⟨_, x0, v0, h1, rfl⟩ fun a w hI => ?_
  have hM : M a w = (key a w hI).choose := dif_pos hI
  obtain ⟨⟨x, vx, hx, he⟩, hmin⟩ := (key a w hI).choose_spec
  refine wp_mono (step x vx a w hx) fun e a' w' hq => ?_
  cases e with
  | normal =>
    obtain ⟨s', hs', ls', kp, y, hkp, hls', vy, hy, hlt⟩ := hq
    have hy' : Holds C (I y) a' w' := hy ▸ (hs'.lifts ls' hls').conv slots kp (by
      rcases hkp with rfl | h
      · exact hk y vy
      · exact h)
    have hA : A a' w' (μ y) := ⟨y, vy, hy', rfl⟩
    refine ⟨⟨_, hA⟩, ?_⟩
    have hM' : M a' w' = (key a' w' ⟨_, hA⟩).choose := dif_pos ⟨_, hA⟩
    have := (key a' w' ⟨_, hA⟩).choose_spec.2 _ hA
    omega
  | exit id => exact hq
  | goto l => exact hq
  | ret => exact hq
  | panic ch => exact hq
  | outgrown => exact hq

theorem bc_sound {P : Program} {Γ : Gm} (hΓ : Γ.ok P) (hm : P.follows .mixedOrders = true) {C : Cx} {R : St → Prop} : ∀ (c : Code), codeOk C.N c = true → ∀ (X : List (Nat × (St → Prop))) (K : St → Prop) (Q : Exit → Act → World → Prop),
    (∀ s a w, Holds C s a w → K s → Q .normal a w) → (∀ s a w, Holds C s a w → R s → Q .ret a w) → (∀ n s a w, Holds C s a w → lkX X n s → Q (.exit n) a w) →
    ∀ s, bc P Γ C.m R c X K s → ∀ a w, Holds C s a w → c.wp P Q a w
  | .skip, _, X, K, Q, hK, hR, hX, s, h, a, w, hs => wp_skip (hK s a w hs h)
  | .seq x y, hc, X, K, Q, hK, hR, hX, s, h, a, w, hs => by
    simp only [codeOk, Bool.and_eq_true] at hc
    exact wp_seq (bc_sound hΓ hm x hc.1 X (fun s => bc P Γ C.m R y X K s) (Exit.then (y.wp P Q) Q) (fun s' a' w' hs' hk' => bc_sound hΓ hm y hc.2 X K Q hK hR hX s' hk' a' w' hs') hR hX s h a w hs)
  | .cond c x y, hc, X, K, Q, hK, hR, hX, s, h, a, w, hs => by
    simp only [codeOk, Bool.and_eq_true] at hc
    have hx : ∀ s', bc P Γ C.m R x X K s' → Holds C s' a w → x.wp P Q a w := fun s' h' hs' => bc_sound hΓ hm x hc.1 X K Q hK hR hX s' h' a w hs'
    have hy : ∀ s', bc P Γ C.m R y X K s' → Holds C s' a w → y.wp P Q a w := fun s' h' hs' => bc_sound hΓ hm y hc.2 X K Q hK hR hX s' h' a w hs'
    cases c with
    | tmp d =>
      simp only [bc, acond] at h
      have lit : ∀ b, getE s.env d = .bool b → Holds C ⟨putE s.env d (if b then .tt else .ff), s.bx⟩ a w := fun b e => hs.lit e
      generalize hv : getE s.env d = v at h
      have ev : ∀ b, v.boolV = some b → a.eval (.tmp d) = .bool b := fun b hb => bool_slot hs (by rw [hv]; exact hb)
      cases v
      case tt => exact wp_cond_true (ev true rfl) (hx _ h hs)
      case ff => exact wp_cond_false (ev false rfl) (hy _ h hs)
      case bool b =>
        cases b with
        | true => exact wp_cond_true (ev true rfl) (hx _ (h.1 rfl) (lit true hv))
        | false => exact wp_cond_false (ev false rfl) (hy _ (h.2 rfl) (lit false hv))
      all_goals exact False.elim h
    | const v =>
      cases v
      case bool b =>
        cases b with
        | true => exact wp_cond_true rfl (hx _ h hs)
        | false => exact wp_cond_false rfl (hy _ h hs)
      all_goals exact False.elim h
    | _ => exact False.elim h
  | .block id c, hc, X, K, Q, hK, hR, hX, s, h, a, w, hs => by
    refine wp_block (bc_sound hΓ hm c hc ((id, K) :: X) K (Exit.inBlock id Q) (fun s a w hs hk => hK s a w hs hk) (fun s a w hs hr => hR s a w hs hr) (fun n s a w hs hl => ?_) s h a w hs)
    simp only [Exit.inBlock]
    simp only [lkX] at hl
    by_cases e : n = id
    · rw [if_pos e.symm] at hl; rw [if_pos e]; exact hK s a w hs hl
    · rw [if_neg fun h => e h.symm] at hl; rw [if_neg e]; exact hX n s a w hs hl
  | .exit id, _, X, K, Q, hK, hR, hX, s, h, a, w, hs => wp_exit (hX id s a w hs h)
  | .ret, _, X, K, Q, hK, hR, hX, s, h, a, w, hs => wp_ret (hR s a w hs h)
  | .region id ops false, hc, X, K, Q, hK, hR, hX, s, h, a, w, hs => by
    refine wp_region_list ?_
    have := ops_list hΓ (P := P) (C := C) ops.toList (Q := Q) (K := kreg K) (fun s _ k a w hh => hK s a w hh k) ops.toList s [] a w (dsts_ok (by simp only [codeOk, Bool.and_eq_true] at hc; exact hc.1)) hs h
    simpa using this
  | .loop c, hc, X, K, Q, hK, hR, hX, s, h, a, w, hs => by
    obtain ⟨α, V, I, μ, slots, keep, ls, x0, hk, hls, h0, v0, step⟩ := h
    refine loop_sound V I μ slots keep ls x0 hk hls h0 v0 (fun x vx a' w' hs' => ?_) a w hs
    exact bc_sound hΓ hm c hc X (klp C.m V I μ slots keep x) (Exit.then (fun a w => ∃ s, Holds C s a w ∧ klp C.m V I μ slots keep x s) Q) (fun s' a' w' hs' hk' => ⟨s', hs', hk'⟩) (fun s a w hs hr => hR s a w hs hr) (fun n s a w hs hl => hX n s a w hs hl) (I x) (step x vx) a' w' hs'
  | .region id ops true, hc, X, K, Q, hK, hR, hX, s, h, a, w, hs => by
    simp only [codeOk, Bool.and_eq_true, Bool.not_true, Bool.false_or] at hc
    exact region_draw hΓ hm hc.2 (dsts_ok hc.1) h (fun s a w hs hk => hK s a w hs hk) hs
  | .rangeFunc .., _, X, K, Q, hK, hR, hX, s, h, a, w, hs => False.elim h
  | .scope _, _, X, K, Q, hK, hR, hX, s, h, a, w, hs => False.elim h
  | .label _, _, X, K, Q, hK, hR, hX, s, h, a, w, hs => False.elim h
  | .goto _, _, X, K, Q, hK, hR, hX, s, h, a, w, hs => False.elim h
  | .refuse _, _, X, K, Q, hK, hR, hX, s, h, a, w, hs => False.elim h

/-- What must hold at a function's end. -/
def afin0 (P : Program) (m : Nat) (res : List ResultVar) (r : AV) (outs : List Bx) (s : St) : Prop :=
  ∃ keep xs, okKeep keep m = true ∧ resL P s res = some xs ∧ cv keep s.bf (pack xs) = r ∧ (keep.map fun b => cvB keep s.bf (getB s.bx b)) = outs

/-- The same, nil slices made rows ahead of it. -/
def afin (P : Program) (m : Nat) (res : List ResultVar) (r : AV) (outs : List Bx) (s : St) : Prop :=
  match outs with
  | [] => afin0 P m res r [] s
  | o :: os => ∃ ls, okLifts ls s = true ∧ afin0 P m res r (o :: os) (lifts ls s)

def cvE (o : Option (List AV)) (bx : List Bx) (r : AV) : Prop :=
  match o with
  | some xs => cv [] (getB bx) (pack xs) = r
  | none => False
theorem cvE_some {xs : List AV} {bx : List Bx} {r : AV} : cvE (some xs) bx r = (cv [] (getB bx) (pack xs) = r) := id rfl

/-- Nothing lent, nothing new. -/
theorem afin_nil {P : Program} {res : List ResultVar} {r : AV} {s : St} : afin P 0 res r [] s = cvE (resL P s res) s.bx r := by
  apply propext
  show afin0 P 0 res r [] s ↔ _
  constructor
  · rintro ⟨keep, xs, hk, hx, hr, ho⟩
    have : keep = [] := by simpa using ho
    subst this
    rw [hx]; exact hr
  · intro h
    cases hx : resL P s res with
    | none => rw [hx] at h; exact h.elim
    | some xs => rw [hx] at h; exact ⟨[], xs, rfl, hx, h, rfl⟩

theorem afin_of {P : Program} {m : Nat} {res : List ResultVar} {r : AV} {outs : List Bx} {s : St} (keep : List Nat) (hk : okKeep keep m = true) {xs : List AV} (hx : resL P s res = some xs)
    (hr : cv keep s.bf (pack xs) = r) (ho : (keep.map fun b => cvB keep s.bf (getB s.bx b)) = outs) : afin P m res r outs s := by
  cases outs with
  | nil => exact ⟨keep, xs, hk, hx, hr, ho⟩
  | cons o os => exact ⟨[], rfl, keep, xs, hk, hx, hr, ho⟩
theorem afin_ofN {P : Program} {m : Nat} {res : List ResultVar} {r : AV} {o : Bx} {os : List Bx} {s : St} (ls : List (Nat × TypeId × SC)) (keep : List Nat) (hk : okKeep keep m = true) {xs : List AV} (hls : okLifts ls s = true) (hx : resL P (lifts ls s) res = some xs)
    (hr : cv keep (lifts ls s).bf (pack xs) = r) (ho : (keep.map fun b => cvB keep (lifts ls s).bf (getB (lifts ls s).bx b)) = o :: os) : afin P m res r (o :: os) s := ⟨ls, hls, keep, xs, hk, hx, hr, ho⟩

/-- What a contract's proof needs of the program: the function's own code. -/
structure FnIs (P : Program) (f : FuncId) (n : Nat) (res : List ResultVar) (c : Code) : Prop where
  ok : ∃ fn, P.funcs[f]? = some fn ∧ fn.body = some c ∧ fn.ntmps = n ∧ fn.results = res.toArray
  callable : callable P f = true
  code : (P.follows .mixedOrders && codeOk n c) = true

theorem ARuns_bc {P : Program} {Γ : Gm} (hΓ : Γ.ok P) {f : FuncId} {c : Code} {args : List AV} {giv : List Bx} {r : AV} {outs : List Bx} {n : Nat} {res : List ResultVar} (hf : FnIs P f n res c)
    (hle : args.length ≤ n) (h : lensA args → lensB giv → bc P Γ giv.length (afin P giv.length res r outs) c [] (afin P giv.length res r outs) ⟨entryE 0 args, entryB args.length giv⟩) : ARuns P f args giv r outs := by
  obtain ⟨fn, h1, h2, h3, h4⟩ := hf.ok
  refine ARuns_of h1 hf.callable h2 h3 hle rfl h4 fun l1 l2 C hN hm a w hs => ?_
  have fin0 : ∀ s a w, Holds C s a w → afin0 P C.m res r outs s → fexit P C res r outs a w := fun s a w hs ⟨keep, xs, hk, hx, hr, ho⟩ => ⟨s, xs, keep, hs, hk, hx, hr, ho⟩
  have fin : ∀ s a w, Holds C s a w → afin P C.m res r outs s → fexit P C res r outs a w := fun s a w hs h => by
    cases outs with
    | nil => exact fin0 s a w hs h
    | cons o os => obtain ⟨ls, hls, h⟩ := h; exact fin0 _ a w (hs.lifts ls hls) h
  replace h := h l1 l2
  rw [← hm] at h
  obtain ⟨hfo, hco⟩ := Bool.and_eq_true_iff.1 hf.code
  exact bc_sound hΓ hfo c (hN ▸ hco) [] _ _ (fun s a w hs hk => fin s a w hs hk) (fun s a w hs hk => fin s a w hs hk) (fun n s a w hs hl => hl.elim) _ h a w hs

end AM
end Go.Proofs.YtbookhehpebcmaaGreatDoor
