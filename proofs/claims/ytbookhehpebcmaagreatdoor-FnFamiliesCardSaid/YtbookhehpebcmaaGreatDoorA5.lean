/-
  An abstract machine over the kit's Code.wp, and its soundness: part 5, operations that leave the memory alone.
-/
import Derived.Test.YtbookhehpebcmaaGreatDoorA4
namespace Go.Proofs.YtbookhehpebcmaaGreatDoor
namespace AM
set_option linter.unusedVariables false
set_option linter.unusedSimpArgs false

def evF (sl : Nat → AV) : Operand → AV
  | .tmp t => sl t
  | .const v => AV.ofV v
  | .func f => .clo f []
  | .global _ => .undef

section
variable {P : Program} {w : World} {M F : Nat → Prop} {g : Gh} {args : List Value} {K : Kt}

theorem ofV_rel (v : Value) : Rel w M F g args (AV.ofV v) v := by
  unfold AV.ofV
  split <;> simp only [Rel]

theorem ev_rel {C : Cx} {sl : Nat → AV} {bx : Nat → Bx} {a : Act} (h : Gam C sl bx g a w) (x : Operand) : Rel w (Mut g bx) C.F g C.args (evF sl x) (a.eval x) := by
  cases x with
  | tmp t => exact h.sls t
  | const v => exact ofV_rel v
  | global i => simp only [evF, Rel]
  | func f => simp only [evF, Rel, RelL, Act.eval]; exact ⟨[], rfl, rfl⟩

theorem wrap_in {k : IntKind} {n : Int} (h : InR k n) : k.wrap n = n := by
  obtain ⟨h1, h2⟩ := h
  cases k <;> simp only [IntKind.min, IntKind.max, IntKind.signed, IntKind.bits, IntKind.wrap] at * <;> simp at * <;> omega

/-- What an operation that leaves the memory alone comes to. -/
def PureR (P : Program) (w : World) (M F : Nat → Prop) (g : Gh) (args : List Value) (K : Kt) (s : Sem Value) : Prop :=
  ∃ v u, K v [] [] ∧ Rel w M F g args v u ∧ s.run P w = .ok u w

theorem run_eqGuard_int (op : BinOp) (t : TypeId) (ox oy : Operand) (k k' : IntKind) (x y : Int) : (eqGuard op t ox oy (.int k x) (.int k' y)).run P w = .ok () w := by
  cases op <;> simp [eqGuard]

theorem run_eqGuard_bool (op : BinOp) (t : TypeId) (ox oy : Operand) (x y : Bool) : (eqGuard op t ox oy (.bool x) (.bool y)).run P w = .ok () w := by
  cases op <;> simp [eqGuard]

theorem pureR_int {k : IntKind} {n m : Int} {s : Sem Value} (hk : K (.int k n) [] []) (hs : s.run P w = .ok (.int k m) w) (e : m = n) : PureR P w M F g args K s :=
  ⟨_, .int k n, hk, by simp only [Rel], by rw [hs, e]⟩

theorem pureR_bool {b c : Bool} {s : Sem Value} (hk : K (.bool b) [] []) (hs : s.run P w = .ok (.bool c) w) (e : c = b) : PureR P w M F g args K s :=
  ⟨_, .bool b, hk, by simp only [Rel], by rw [hs, e]⟩

theorem int_sim (op : BinOp) (k : IntKind) (x y : Int) (hK : aInt op k x y K) (t : TypeId) (ox oy : Operand) :
    PureR P w M F g args K (do eqGuard op t ox oy (.int k x) (.int k y); binOp op t (.int k x) (.int k y)) := by
  have hg := run_eqGuard_int (P := P) (w := w) op t ox oy k k x y
  cases op <;> simp only [aInt] at hK
  case add => exact pureR_int hK.2 (by simp only [Sem.run_bind, hg, Result.andThen_ok]; simp [binOp, Op.intArith]) (wrap_in hK.1)
  case sub => exact pureR_int hK.2 (by simp only [Sem.run_bind, hg, Result.andThen_ok]; simp [binOp, Op.intArith]) (wrap_in hK.1)
  case mul => exact pureR_int hK.2 (by simp only [Sem.run_bind, hg, Result.andThen_ok]; simp [binOp, Op.intArith]) (wrap_in hK.1)
  case quo => exact pureR_int hK.2 (by simp only [Sem.run_bind, hg, Result.andThen_ok]; simp [binOp, Op.intDiv, hK.1.1]) (wrap_in hK.1.2)
  case rem => exact pureR_int hK.2 (by simp only [Sem.run_bind, hg, Result.andThen_ok]; simp [binOp, Op.intDiv, hK.1]) rfl
  case and => exact pureR_int hK (by simp only [Sem.run_bind, hg, Result.andThen_ok]; simp only [binOp, ne_eq, not_true_eq_false, if_false, Op.intBits]; rfl) rfl
  case or => exact pureR_int hK (by simp only [Sem.run_bind, hg, Result.andThen_ok]; simp only [binOp, ne_eq, not_true_eq_false, if_false, Op.intBits]; rfl) rfl
  case xor => exact pureR_int hK (by simp only [Sem.run_bind, hg, Result.andThen_ok]; simp only [binOp, ne_eq, not_true_eq_false, if_false, Op.intBits]; rfl) rfl
  case andNot => exact pureR_int hK (by simp only [Sem.run_bind, hg, Result.andThen_ok]; simp only [binOp, ne_eq, not_true_eq_false, if_false, Op.intBits]; rfl) rfl
  case eql => exact pureR_bool hK (by simp only [Sem.run_bind, hg, Result.andThen_ok]; simp only [binOp, ne_eq, not_true_eq_false, if_false, Op.intCmp]; rfl) rfl
  case neq => exact pureR_bool hK (by simp only [Sem.run_bind, hg, Result.andThen_ok]; simp only [binOp, ne_eq, not_true_eq_false, if_false, Op.intCmp]; rfl) rfl
  case lss => exact pureR_bool hK (by simp only [Sem.run_bind, hg, Result.andThen_ok]; simp only [binOp, ne_eq, not_true_eq_false, if_false, Op.intCmp]; rfl) rfl
  case leq => exact pureR_bool hK (by simp only [Sem.run_bind, hg, Result.andThen_ok]; simp only [binOp, ne_eq, not_true_eq_false, if_false, Op.intCmp]; rfl) rfl
  case gtr => exact pureR_bool hK (by simp only [Sem.run_bind, hg, Result.andThen_ok]; simp only [binOp, ne_eq, not_true_eq_false, if_false, Op.intCmp]; rfl) rfl
  case geq => exact pureR_bool hK (by simp only [Sem.run_bind, hg, Result.andThen_ok]; simp only [binOp, ne_eq, not_true_eq_false, if_false, Op.intCmp]; rfl) rfl

theorem shl_sim (k k' : IntKind) (x y : Int) (hK : aShift .shl k x y K) (t : TypeId) (ox oy : Operand) :
    PureR P w M F g args K (do eqGuard .shl t ox oy (.int k x) (.int k' y); binOp .shl t (.int k x) (.int k' y)) := by
  have hg := run_eqGuard_int (P := P) (w := w) .shl t ox oy k k' x y
  simp only [aShift] at hK
  obtain ⟨⟨h0, h1, h2⟩, hk⟩ := hK
  have hm : min y.toNat k.bits = y.toNat := by omega
  exact pureR_int hk (by simp only [Sem.run_bind, hg, Result.andThen_ok]; simp only [binOp, Op.shift, hm]; rw [if_neg (by omega)]; rfl) (wrap_in h2)

theorem shr_sim (k k' : IntKind) (x y : Int) (hK : aShift .shr k x y K) (t : TypeId) (ox oy : Operand) :
    PureR P w M F g args K (do eqGuard .shr t ox oy (.int k x) (.int k' y); binOp .shr t (.int k x) (.int k' y)) := by
  have hg := run_eqGuard_int (P := P) (w := w) .shr t ox oy k k' x y
  simp only [aShift] at hK
  obtain ⟨⟨h0, h1⟩, hk⟩ := hK
  have hm : min y.toNat k.bits = y.toNat := by omega
  exact pureR_int hk (by simp only [Sem.run_bind, hg, Result.andThen_ok]; simp only [binOp, Op.shift, hm]; rw [if_neg (by omega)]; rfl)
    (by rw [Int.fdiv_eq_ediv_of_nonneg _ (Int.pow_nonneg (by omega))])

def AV.boolV : AV → Option Bool
  | .bool b => some b
  | .tt => some true
  | .ff => some false
  | _ => none

theorem boolV_rel {x : AV} {b : Bool} {v : Value} (h : x.boolV = some b) : Rel w M F g args x v ↔ v = .bool b := by
  cases x <;> simp only [AV.boolV, Option.some.injEq, reduceCtorEq] at h <;> subst h <;> simp only [Rel]

theorem boolV_eq {x : AV} {b : Bool} {v : Value} (h : x.boolV = some b) (hr : Rel w M F g args x v) : v = .bool b := (boolV_rel h).1 hr
theorem boolV_mk {x : AV} {b : Bool} (h : x.boolV = some b) : Rel w M F g args x (.bool b) := (boolV_rel h).2 rfl

theorem bool_sim (op : BinOp) (t : TypeId) (ht : P.underlying t = some .bool) (x y p q : AV) (b c : Bool) (hx : x.boolV = some b) (hy : y.boolV = some c) (hp : p.boolV = some (b == c)) (hq : q.boolV = some (b != c))
    (hK : aBool op x y p q K) (ox oy : Operand) : PureR P w M F g args K (do eqGuard op t ox oy (.bool b) (.bool c); binOp op t (.bool b) (.bool c)) := by
  have hg := run_eqGuard_bool (P := P) (w := w) op t ox oy b c
  cases op <;> simp only [aBool] at hK
  case eql => exact ⟨_, .bool (b == c), hK, boolV_mk hp, by simp only [Sem.run_bind, hg, Result.andThen_ok]; simp only [binOp, Sem.run_bind, run_equal_bool _ t b c ht, Result.andThen_ok]; rfl⟩
  case neq => exact ⟨_, .bool (b != c), hK, boolV_mk hq, by simp only [Sem.run_bind, hg, Result.andThen_ok]; simp only [binOp, Sem.run_bind, run_equal_bool _ t b c ht, Result.andThen_ok]; rfl⟩

theorem run_eqGuard_string (op : BinOp) (t : TypeId) (ox oy : Operand) (x y : ByteArray) : (eqGuard op t ox oy (.string x) (.string y)).run P w = .ok () w := by
  cases op <;> simp [eqGuard]

theorem str_sim (op : BinOp) (t : TypeId) (x y : ByteArray) (hK : aStr op x y K) (ox oy : Operand) :
    PureR P w M F g args K (do eqGuard op t ox oy (.string x) (.string y); binOp op t (.string x) (.string y)) := by
  have hg := run_eqGuard_string (P := P) (w := w) op t ox oy x y
  have he : (x.toList == y.toList) = sEq x y := by
    unfold sEq
    rw [ByteArray.toList_eq, ByteArray.toList_eq]
    by_cases h : x = y
    · subst h; simp
    · rw [decide_eq_false h]
      simp only [beq_eq_false_iff_ne, ne_eq]
      intro e; apply h
      cases x; cases y; simp only [Array.toList_inj] at e; rw [e]
  cases op <;> simp only [aStr] at hK
  case add =>
    refine ⟨_, .string (x ++ y), hK.2, by simp only [Rel], ?_⟩
    simp only [Sem.run_bind, hg, Result.andThen_ok, binOp_string_add, Op.stringOp]
    rw [if_neg (by have : IntKind.i64.max = 9223372036854775807 := by decide
                   rw [this]; omega)]
    rfl
  case eql => exact ⟨_, .bool (sEq x y), hK, by simp only [Rel], by simp only [Sem.run_bind, hg, Result.andThen_ok, binOp_string_eql, he]; rfl⟩
  case neq => exact ⟨_, .bool (!sEq x y), hK, by simp only [Rel], by simp only [Sem.run_bind, hg, Result.andThen_ok, binOp_string_neq, he]; rfl⟩

theorem bin_sim (op : BinOp) (t : TypeId) (x y : AV) (hK : aBin op (P.underlying t) x y K) (ox oy : Operand) {vx vy : Value} (hx : Rel w M F g args x vx) (hy : Rel w M F g args y vy) :
    PureR P w M F g args K (do eqGuard op t ox oy vx vy; binOp op t vx vy) := by
  generalize hu : P.underlying t = ub at hK
  unfold aBin at hK
  split at hK
  · simp only [Rel] at hx hy; subst hx hy
    split at hK
    · exact shl_sim _ _ _ _ hK t ox oy
    · exact shr_sim _ _ _ _ hK t ox oy
    · obtain ⟨rfl, hK⟩ := hK; exact int_sim _ _ _ _ hK t ox oy
  all_goals first
    | exact hK.elim
    | (rw [boolV_eq rfl hx, boolV_eq rfl hy]
       refine bool_sim op t hu _ _ _ _ _ _ rfl rfl ?_ ?_ hK ox oy <;> simp [AV.boolV])
    | (simp only [Rel] at hx hy; subst hx hy
       exact str_sim op t _ _ hK ox oy)
    | skip

theorem wrap_sim (op : BinOp) (t : TypeId) (x y : AV) (hK : aWrap op x y K) (ox oy : Operand) {vx vy : Value} (hx : Rel w M F g args x vx) (hy : Rel w M F g args y vy) :
    PureR P w M F g args K (do eqGuard op t ox oy vx vy; binOp op t vx vy) := by
  unfold aWrap at hK
  split at hK
  · rename_i k _ k' _
    simp only [Rel] at hx hy; subst hx hy
    obtain ⟨rfl, hK⟩ := hK
    have hg := run_eqGuard_int (P := P) (w := w) .mul t ox oy k k
    exact pureR_int hK (by simp only [Sem.run_bind, hg, Result.andThen_ok]; simp [binOp, Op.intArith]) rfl
  · rename_i k _ k' _
    simp only [Rel] at hx hy; subst hx hy
    obtain ⟨rfl, hK⟩ := hK
    have hg := run_eqGuard_int (P := P) (w := w) .add t ox oy k k
    exact pureR_int hK (by simp only [Sem.run_bind, hg, Result.andThen_ok]; simp [binOp, Op.intArith]) rfl
  · exact hK.elim

theorem binW_sim (b : Bool) (op : BinOp) (t : TypeId) (x y : AV) (hK : aBinW b op (P.underlying t) x y K) (ox oy : Operand) {vx vy : Value} (hx : Rel w M F g args x vx) (hy : Rel w M F g args y vy) :
    PureR P w M F g args K (do eqGuard op t ox oy vx vy; binOp op t vx vy) := by
  cases b with
  | true => exact wrap_sim op t x y hK ox oy hx hy
  | false => exact bin_sim op t x y hK ox oy hx hy

theorem un_sim (op : UnOp) (x : AV) (hK : aUn op x K) {vx : Value} (hx : Rel w M F g args x vx) : PureR P w M F g args K (Op.unary op vx) := by
  unfold aUn at hK
  split at hK
  all_goals first
    | exact hK.elim
    | skip
  all_goals split at hK
  all_goals first
    | exact hK.elim
    | skip
  · rw [boolV_eq rfl hx]; exact ⟨_, .bool (!_), hK, by simp only [Rel], rfl⟩
  · rw [boolV_eq rfl hx]; exact ⟨_, .bool false, hK, by simp only [Rel], rfl⟩
  · rw [boolV_eq rfl hx]; exact ⟨_, .bool true, hK, by simp only [Rel], rfl⟩
  · simp only [Rel] at hx; subst hx
    exact pureR_int hK.2 (by simp [Op.unary, Op.intArith]; rfl) (by have := wrap_in hK.1; simpa using this)

theorem conv_sim (src dst : TypeId) (x : AV) (hK : aConv x (P.underlying src) (P.underlying dst) K) {vx : Value} (hx : Rel w M F g args x vx) :
    PureR P w M F g args K (convert src dst vx) := by
  unfold aConv at hK
  split at hK
  case h_2 => exact hK.elim
  case h_1 n d' k' hd' hd =>
    simp only [Rel] at hx; subst hx
    exact pureR_int hK.2 (by simp only [convert, Sem.run_bind, run_underlying hd', run_underlying hd, Result.andThen_ok]; simp only [Conv.intToInt]; rfl) (wrap_in hK.1)
end

end AM
end Go.Proofs.YtbookhehpebcmaaGreatDoor
