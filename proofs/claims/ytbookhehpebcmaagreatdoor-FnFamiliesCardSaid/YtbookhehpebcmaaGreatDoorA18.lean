/-
  An abstract machine over the kit's Code.wp, and its soundness: part 18, code: what remains, branches, regions, loops.
-/
import Derived.Test.YtbookhehpebcmaaGreatDoorA17
namespace Go.Proofs.YtbookhehpebcmaaGreatDoor
namespace AM
set_option linter.unusedVariables false
set_option linter.unusedSimpArgs false

/-- What remains behind a piece of code. -/
inductive KI where
  | code (c : Code)
  | blk (id : Nat)
  | lp (J : St → Prop)

def kpost (P : Program) (C : Cx) (QF : Act → World → Prop) : List KI → Exit → Act → World → Prop
  | [] => fun e a w => match e with
    | .normal => QF a w
    | .ret => QF a w
    | _ => False
  | .code c :: r => Exit.then (c.wp P (kpost P C QF r)) (kpost P C QF r)
  | .blk id :: r => Exit.inBlock id (kpost P C QF r)
  | .lp J :: r => Exit.then (fun a w => ∃ s, Holds C s a w ∧ J s) (kpost P C QF r)

/-- The code, from a state on. -/
def awp (P : Program) (C : Cx) (QF : Act → World → Prop) (c : Code) (ks : List KI) (s : St) : Prop :=
  ∀ a w, Holds C s a w → c.wp P (kpost P C QF ks) a w
/-- What remains, from a state on: normally; from an exit on; from a return on. -/
def anx (P : Program) (C : Cx) (QF : Act → World → Prop) (ks : List KI) (s : St) : Prop :=
  ∀ a w, Holds C s a w → kpost P C QF ks .normal a w
def aex (P : Program) (C : Cx) (QF : Act → World → Prop) (id : Nat) (ks : List KI) (s : St) : Prop :=
  ∀ a w, Holds C s a w → kpost P C QF ks (.exit id) a w
def aret (C : Cx) (QF : Act → World → Prop) (s : St) : Prop := ∀ a w, Holds C s a w → QF a w

section
variable {P : Program} {C : Cx} {QF : Act → World → Prop} {ks : List KI} {s : St} {a : Act} {w : World}

theorem kpost_ret : ∀ (ks : List KI) (a : Act) (w : World), QF a w → kpost P C QF ks .ret a w
  | [], _, _, h => h
  | .code _ :: r, a, w, h => kpost_ret r a w h
  | .blk _ :: r, a, w, h => kpost_ret r a w h
  | .lp _ :: r, a, w, h => kpost_ret r a w h

theorem anx_nil (h : aret C QF s) : anx P C QF [] s := h
theorem anx_code {c : Code} (h : awp P C QF c ks s) : anx P C QF (.code c :: ks) s := h
theorem anx_blk {id : Nat} (h : anx P C QF ks s) : anx P C QF (.blk id :: ks) s := h
theorem anx_lp {J : St → Prop} (h : J s) : anx P C QF (.lp J :: ks) s := fun a w hs => ⟨s, hs, h⟩

theorem aex_code {c : Code} {id : Nat} (h : aex P C QF id ks s) : aex P C QF id (.code c :: ks) s := h
theorem aex_lp {J : St → Prop} {id : Nat} (h : aex P C QF id ks s) : aex P C QF id (.lp J :: ks) s := h
theorem aex_here {id : Nat} (h : anx P C QF ks s) : aex P C QF id (.blk id :: ks) s := fun a w hs => by
  simp only [kpost, Exit.inBlock, if_true]; exact h a w hs
theorem aex_blk {id id' : Nat} (hne : (id == id') = false) (h : aex P C QF id ks s) : aex P C QF id (.blk id' :: ks) s := fun a w hs => by
  have : id ≠ id' := by simpa using hne
  simp only [kpost, Exit.inBlock, if_neg this]; exact h a w hs

theorem awp_skip (h : anx P C QF ks s) : awp P C QF .skip ks s := fun a w hs => wp_skip (h a w hs)
theorem awp_exit {id : Nat} (h : aex P C QF id ks s) : awp P C QF (.exit id) ks s := fun a w hs => wp_exit (h a w hs)
theorem awp_ret (h : aret C QF s) : awp P C QF .ret ks s := fun a w hs => wp_ret (kpost_ret ks a w (h a w hs))
theorem awp_seq {x y : Code} (h : awp P C QF x (.code y :: ks) s) : awp P C QF (.seq x y) ks s := fun a w hs => wp_seq (h a w hs)
theorem awp_block {id : Nat} {c : Code} (h : awp P C QF c (.blk id :: ks) s) : awp P C QF (.block id c) ks s := fun a w hs => wp_block (h a w hs)

/-- A state is less than another when what is said of it is. -/
theorem awp_mono {c : Code} {s' : St} (h : awp P C QF c ks s') (hs : ∀ a w, Holds C s a w → Holds C s' a w) : awp P C QF c ks s := fun a w k => h a w (hs a w k)

/-- What a condition says: the state behind it when it holds, and when not. -/
def aCase (d : Nat) (s : St) (Y N : St → Prop) : AV → Prop
  | .tt => Y s
  | .ff => N s
  | .bool g => (g = true → Y ⟨putE s.env d .tt, s.bx⟩) ∧ (g = false → N ⟨putE s.env d .ff, s.bx⟩)
  | _ => False
def acond (c : Operand) (s : St) (Y N : St → Prop) : Prop :=
  match c with
  | .tmp d => aCase d s Y N (getE s.env d)
  | .const (.bool true) => Y s
  | .const (.bool false) => N s
  | _ => False
theorem acond_ct {s : St} {Y N : St → Prop} : acond (.const (.bool true)) s Y N = Y s := id rfl
theorem acond_cf {s : St} {Y N : St → Prop} : acond (.const (.bool false)) s Y N = N s := id rfl
theorem acond_tmp {s : St} {Y N : St → Prop} {d : Nat} : acond (.tmp d) s Y N = aCase d s Y N (getE s.env d) := id rfl
theorem aCase_t {s : St} {Y N : St → Prop} {d : Nat} : aCase d s Y N .tt = Y s := id rfl
theorem aCase_f {s : St} {Y N : St → Prop} {d : Nat} : aCase d s Y N .ff = N s := id rfl
theorem aCase_b {s : St} {Y N : St → Prop} {d : Nat} {g : Bool} : aCase d s Y N (.bool g) = ((g = true → Y ⟨putE s.env d .tt, s.bx⟩) ∧ (g = false → N ⟨putE s.env d .ff, s.bx⟩)) := id rfl

theorem bool_slot (h : Holds C s a w) {d : Nat} {b : Bool} (hb : (getE s.env d).boolV = some b) : a.eval (.tmp d) = .bool b := by
  have := (guard_slot h d).1 b hb
  simp [Act.eval, Array.getD_eq_getD_getElem?, this]

theorem awp_cond {c : Operand} {x y : Code} (h : acond c s (awp P C QF x ks) (awp P C QF y ks)) : awp P C QF (.cond c x y) ks s := by
  intro a w hs
  cases c with
  | tmp d =>
    simp only [acond] at h
    have lit : ∀ b, getE s.env d = .bool b → Holds C ⟨putE s.env d (if b then .tt else .ff), s.bx⟩ a w := fun b e => hs.lit e
    generalize hv : getE s.env d = v at h
    have ev : ∀ b, v.boolV = some b → a.eval (.tmp d) = .bool b := fun b hb => bool_slot hs (by rw [hv]; exact hb)
    cases v
    case tt => exact wp_cond_true (ev true rfl) (h a w hs)
    case ff => exact wp_cond_false (ev false rfl) (h a w hs)
    case bool b =>
      cases b with
      | true => exact wp_cond_true (ev true rfl) (h.1 rfl a w (lit true hv))
      | false => exact wp_cond_false (ev false rfl) (h.2 rfl a w (lit false hv))
    all_goals exact False.elim h
  | const v =>
    cases v
    case bool b =>
      cases b with
      | true => exact wp_cond_true rfl (h a w hs)
      | false => exact wp_cond_false rfl (h a w hs)
    all_goals exact h.elim
  | _ => exact h.elim

def dstsOk (ops : List Oper) (n : Nat) : Bool := ops.all fun o => match o.dst with | some d => decide (d < n) | none => true

theorem dsts_ok {ops : List Oper} {n : Nat} (h : dstsOk ops n = true) : ∀ o ∈ ops, ∀ d, o.dst = some d → d < n := by
  intro o ho d hd
  have := List.all_eq_true.1 h o ho
  rw [hd] at this
  simpa using this

end

end AM
end Go.Proofs.YtbookhehpebcmaaGreatDoor
