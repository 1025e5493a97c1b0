/-
  An abstract machine over the kit's Code.wp, and its soundness: part 4, what one operation does, as an equation for simp to reckon with.
-/
import Derived.Test.YtbookhehpebcmaaGreatDoorA3
namespace Go.Proofs.YtbookhehpebcmaaGreatDoor
namespace AM
set_option linter.unusedVariables false

def SC.take : SC → Nat → SC
  | .ints k xs, n => .ints k (xs.take n)
  | .rows fr xss, n => .rows fr (xss.take n)
  | .strs ss, n => .strs (ss.take n)

def SC.drop : SC → Nat → SC
  | .ints k xs, n => .ints k (xs.drop n)
  | .rows fr xss, n => .rows fr (xss.drop n)
  | .strs ss, n => .strs (ss.drop n)

def meet : Option TypeId → Option TypeId → Option TypeId
  | some a, some b => if a = b then some a else none
  | _, _ => none

/-- A slice's content put behind another's. -/
def SC.app : SC → SC → Option SC
  | .ints k xs, .ints k' ys => if k = k' then some (.ints k (xs ++ ys)) else none
  | .rows f xss, .rows g yss => some (.rows (meet f g) (xss ++ yss))
  | .strs ss, .strs ts => some (.strs (ss ++ ts))
  | _, _ => none

/-- One more element. -/
def SC.snoc : SC → AV → Option SC
  | .ints k xs, .int k' n => if k = k' then some (.ints k (xs ++ [n])) else none
  | .rows f xss, .sl g (.ints .i64 ys) => some (.rows (meet f g) (xss ++ [ys]))
  | .rows f xss, .prm _ (.ints .i64 ys) => some (.rows none (xss ++ [ys]))
  | .rows f xss, .nil => some (.rows f (xss ++ [[]]))
  | .strs ss, .str s => some (.strs (ss ++ [s]))
  | _, _ => none

def snocs (c : SC) : List AV → Option SC
  | [] => some c
  | x :: r => match c.snoc x with | some c' => snocs c' r | none => none

def SC.set : SC → Nat → AV → Option SC
  | .ints k xs, i, .int k' n => if k = k' then some (.ints k (xs.set i n)) else none
  | _, _, _ => none

inductive Ty where
  | one (z : AV)
  | flat (zs : List AV)
  | bad

def AV.ofV : Value → AV
  | .int k n => .int k n
  | .bool true => .tt
  | .bool false => .ff
  | .string s => .str s
  | .slice none 0 0 => .nil
  | _ => .undef

def oneCell (P : Program) (t : TypeId) : Bool :=
  match P.underlying t, P.info? t with
  | some (.struct _), _ => false
  | some (.array ..), _ => false
  | some _, some i => i.size == 1
  | _, _ => false

def tyOf (P : Program) (t : TypeId) : Ty :=
  match P.underlying t, P.info? t with
  | some (.struct fs), some i =>
    if fs.toList.zipIdx.all (fun f => f.1.offset == f.2 && oneCell P f.1.type) && i.size == fs.size then
      match i.zero with | some (.agg cs) => if cs.size == fs.size then .flat (cs.toList.map AV.ofV) else .bad | _ => .bad
    else .bad
  | some (.array ..), _ => .bad
  | some _, some i => if i.size == 1 then (match i.zero with | some z => if z.oneCell' then .one (AV.ofV z) else .bad | none => .bad) else .bad
  | _, _ => .bad

/-- An element's type: of one cell, of few bytes, with a zero. -/
def elTy (P : Program) (e : TypeId) : Bool :=
  oneCell P e && match P.info? e with
    | some i => decide (i.bytes ≤ 64) && match i.zero with
      | some z => z.oneCell'
      | none => false
    | none => false

def zeroIs (P : Program) (e : TypeId) (k : IntKind) : Bool :=
  match P.info? e with
  | some i => match i.zero with
    | some (.int k' n) => k' == k && n == 0
    | _ => false
  | none => false

/-- A slice's type: its element's type, the empty content. -/
def slTy (P : Program) (t : TypeId) : Option (TypeId × SC) :=
  match P.underlying t with
  | some (.slice e) =>
    if elTy P e then
      match P.underlying e with
      | some (.int k) => if zeroIs P e k then some (e, .ints k []) else none
      | some (.slice e') => some (e, .rows (some e') [])
      | some .string => some (e, .strs [])
      | _ => none
    else none
  | _ => none

def slTy2 (P : Program) : List TypeId → Option (TypeId × SC)
  | [t, u] => if t = u then slTy P t else none
  | _ => none

def getE : List (Nat × AV) → Nat → AV
  | [], _ => .undef
  | (k, v) :: r, n => if k = n then v else getE r n

def putE (l : List (Nat × AV)) (n : Nat) (x : AV) : List (Nat × AV) :=
  match l with
  | [] => [(n, x)]
  | (k, v) :: r => if k = n then (n, x) :: r else (k, v) :: putE r n x

def setB : List Bx → Nat → Bx → List Bx
  | [], 0, x => [x]
  | [], n + 1, x => .none :: setB [] n x
  | _ :: r, 0, x => x :: r
  | y :: r, n + 1, x => y :: setB r n x

def setsB (l : List Bx) : List (Nat × Bx) → List Bx
  | [] => l
  | (b, x) :: r => setsB (setB l b x) r

def evalE (env : List (Nat × AV)) : Operand → AV
  | .tmp t => getE env t
  | .const v => AV.ofV v
  | .func f => .clo f []
  | .global _ => .undef

def InR (k : IntKind) (n : Int) : Prop := k.min ≤ n ∧ n ≤ k.max

def band (k : IntKind) (a b : Int) : Int := k.wrap (BitVec.ofInt k.bits a &&& BitVec.ofInt k.bits b).toNat
def bor (k : IntKind) (a b : Int) : Int := k.wrap (BitVec.ofInt k.bits a ||| BitVec.ofInt k.bits b).toNat
def bxor (k : IntKind) (a b : Int) : Int := k.wrap (BitVec.ofInt k.bits a ^^^ BitVec.ofInt k.bits b).toNat
def bandn (k : IntKind) (a b : Int) : Int := k.wrap (BitVec.ofInt k.bits a &&& ~~~ BitVec.ofInt k.bits b).toNat

abbrev Kt := AV → List (Nat × Bx) → List Nat → Prop

/-- Operators on integers of one kind (shifts apart). -/
def aInt (op : BinOp) (k : IntKind) (x y : Int) (K : Kt) : Prop :=
  match op with
  | .add => InR k (x + y) ∧ K (.int k (x + y)) [] []
  | .sub => InR k (x - y) ∧ K (.int k (x - y)) [] []
  | .mul => InR k (x * y) ∧ K (.int k (x * y)) [] []
  | .quo => (y ≠ 0 ∧ InR k (x.tdiv y)) ∧ K (.int k (x.tdiv y)) [] []
  | .rem => y ≠ 0 ∧ K (.int k (x.tmod y)) [] []
  | .and => K (.int k (band k x y)) [] []
  | .or => K (.int k (bor k x y)) [] []
  | .xor => K (.int k (bxor k x y)) [] []
  | .andNot => K (.int k (bandn k x y)) [] []
  | .eql => K (.bool (decide (x = y))) [] []
  | .neq => K (.bool (!decide (x = y))) [] []
  | .lss => K (.bool (decide (x < y))) [] []
  | .leq => K (.bool (decide (x ≤ y))) [] []
  | .gtr => K (.bool (decide (y < x))) [] []
  | .geq => K (.bool (decide (y ≤ x))) [] []
  | _ => False

def AV.asB : AV → Option Bool
  | .bool b => some b
  | .tt => some true
  | .ff => some false
  | _ => none

def aShift (op : BinOp) (k : IntKind) (x y : Int) (K : Kt) : Prop :=
  match op with
  | .shl => (0 ≤ y ∧ y ≤ k.bits ∧ InR k (x * 2 ^ y.toNat)) ∧ K (.int k (x * 2 ^ y.toNat)) [] []
  | .shr => (0 ≤ y ∧ y ≤ k.bits) ∧ K (.int k (x / 2 ^ y.toNat)) [] []
  | _ => False

def aBool (op : BinOp) (x y : AV) (p q : AV) (K : Kt) : Prop :=
  match op with
  | .eql => K p [] []
  | .neq => K q [] []
  | _ => False

/-- A byte of a string. -/
def sGet (s : ByteArray) (i : Nat) : Int := ((s.data.getD i 0).toNat : Int)

def sEq (x y : ByteArray) : Bool := decide (x = y)

/-- A string, from its bytes. -/
def bst (l : List UInt8) : ByteArray := ⟨l.toArray⟩
theorem bst_mk (l : List UInt8) : ByteArray.mk l.toArray = bst l := rfl
theorem bst_size (l : List UInt8) : (bst l).size = l.length := by simp [bst, ByteArray.size]
theorem bst_inj {l m : List UInt8} (h : bst l = bst m) : l = m := by
  have := congrArg (fun x : ByteArray => x.data.toList) h
  simpa [bst] using this
theorem bst_ext {x y : ByteArray} (h : x.data.toList = y.data.toList) : x = y := by
  cases x; cases y; simp only [Array.toList_inj] at h; rw [h]
theorem bst_data (x : ByteArray) : bst x.data.toList = x := by cases x; simp [bst]
theorem bst_add (l m : List UInt8) : bst l ++ bst m = bst (l ++ m) := bst_ext (by simp [bst])
theorem bst_cut (l : List UInt8) (i j : Nat) : (bst l).extract i j = bst ((l.take j).drop i) := bst_ext (by
  simp only [bst, ByteArray.data_extract, List.extract_toArray, List.extract_eq_take_drop, List.drop_take])
theorem bst_get (l : List UInt8) (i : Nat) : sGet (bst l) i = ((l.getD i 0).toNat : Int) := by
  simp [sGet, bst, List.getD_eq_getElem?_getD, Array.getD_eq_getD_getElem?]
theorem sEq_bst (l m : List UInt8) : sEq (bst l) (bst m) = decide (l = m) := by
  unfold sEq
  by_cases h : l = m
  · subst h; simp
  · rw [decide_eq_false h, decide_eq_false fun e => h (bst_inj e)]
theorem bst_nums (xs : List Int) : strOfNums xs = bst (xs.map fun n => UInt8.ofNat n.toNat) := rfl
theorem bst_getD (ls : List (List UInt8)) (i : Nat) : (ls.map bst).getD i (bst []) = bst (ls.getD i []) := by
  rw [List.getD_eq_getElem?_getD, List.getD_eq_getElem?_getD, List.getElem?_map]
  cases ls[i]? <;> rfl
theorem bst_snoc (ls : List (List UInt8)) (l : List UInt8) : ls.map bst ++ [bst l] = (ls ++ [l]).map bst := by simp

def aStr (op : BinOp) (x y : ByteArray) (K : Kt) : Prop :=
  match op with
  | .add => x.size + y.size ≤ 9223372036854775807 ∧ K (.str (x ++ y)) [] []
  | .eql => K (.bool (sEq x y)) [] []
  | .neq => K (.bool (!sEq x y)) [] []
  | _ => False

def aBin (op : BinOp) : Option TypeDesc → AV → AV → Kt → Prop
  | _, .int k x, .int k' y, K =>
    match op with
    | .shl => aShift .shl k x y K
    | .shr => aShift .shr k x y K
    | op => k = k' ∧ aInt op k x y K
  | some .bool, .bool x, .bool y, K => aBool op (.bool x) (.bool y) (.bool (x == y)) (.bool (x != y)) K
  | some .bool, .bool x, .tt, K => aBool op (.bool x) .tt (.bool x) (.bool (!x)) K
  | some .bool, .bool x, .ff, K => aBool op (.bool x) .ff (.bool (!x)) (.bool x) K
  | some .bool, .tt, .bool x, K => aBool op .tt (.bool x) (.bool x) (.bool (!x)) K
  | some .bool, .ff, .bool x, K => aBool op .ff (.bool x) (.bool (!x)) (.bool x) K
  | some .bool, .tt, .tt, K => aBool op .tt .tt .tt .ff K
  | some .bool, .tt, .ff, K => aBool op .tt .ff .ff .tt K
  | some .bool, .ff, .tt, K => aBool op .ff .tt .ff .tt K
  | some .bool, .ff, .ff, K => aBool op .ff .ff .tt .ff K
  | some .string, .str x, .str y, K => aStr op x y K
  | _, _, _, _ => False

def aUn (op : UnOp) : AV → Kt → Prop
  | .bool b, K => match op with | .not => K (.bool (!b)) [] [] | _ => False
  | .tt, K => match op with | .not => K .ff [] [] | _ => False
  | .ff, K => match op with | .not => K .tt [] [] | _ => False
  | .int k n, K => match op with | .neg => InR k (0 - n) ∧ K (.int k (0 - n)) [] [] | _ => False
  | _, _ => False

/-- What an operand reads as, as a slice; the blocks that are looked at. -/
def cont (c0 : SC) (bx : Nat → Bx) : AV → Option SC
  | .nil => some c0
  | .sl _ c => some c
  | .prm _ c => some c
  | .ref b n => match bx b with
    | .row _ c => if c.len = n then some c else none
    | .drow _ c => if c.len = n then some c else none
    | _ => none
  | _ => none

def AV.bid : AV → List Nat
  | .ref b _ => [b]
  | _ => []

/-- A reference becomes a lasting view. -/
def still (bx : Nat → Bx) : AV → AV
  | .ref b n => match bx b with
    | .row e c => if c.len = n then .sl (some e) c else .undef
    | .drow e c => if c.len = n then .sl (some e) c else .undef
    | _ => .undef
  | x => x

/-- The row that dies by it. -/
def dies (bx : Nat → Bx) : AV → List (Nat × Bx)
  | .ref b _ => match bx b with
    | .row e c => [(b, .drow e c)]
    | _ => []
  | _ => []

def AV.cells : AV → Option (List AV)
  | .agg xs => some xs
  | .tup _ => none
  | .undef => none
  | .skip => none
  | x => some [x]

def fillA (zs : List AV) : List (Nat × AV) → List AV
  | [] => zs
  | (i, x) :: r => fillA (zs.set i x) r

def AV.blk : AV → Nat
  | .ptr b _ => b
  | .rp b _ _ => b
  | .ref b _ => b
  | _ => 0

def AV.one : AV → Bool
  | .agg _ | .tup _ | .undef | .skip => false
  | _ => true

/-- A load, by the type, the address, what lies there. -/
def aLoad : Ty → AV → Bx → Kt → Prop
  | .one _, .ptr b off, .box cs, K => off < cs.length ∧ K (cs.getD off .undef) [] [b]
  | .one _, .ptr b off, .dbox cs, K => off < cs.length ∧ K (cs.getD off .undef) [] [b]
  | .flat zs, .ptr b off, .box cs, K => (off = 0 ∧ cs.length = zs.length) ∧ K (.agg cs) [] [b]
  | .flat zs, .ptr b off, .dbox cs, K => (off = 0 ∧ cs.length = zs.length) ∧ K (.agg cs) [] [b]
  | .one _, .pv cs off, _, K => off < cs.length ∧ K (cs.getD off .undef) [] []
  | .flat zs, .pv cs off, _, K => (off = 0 ∧ cs.length = zs.length) ∧ K (.agg cs) [] []
  | .one _, .ep x, _, K => K x [] []
  | .one _, .rp b n i, .row _ c, K => (c.len = n ∧ i < n) ∧ K (c.get i.toNat) [] [b]
  | .one _, .rp b n i, .drow _ c, K => (c.len = n ∧ i < n) ∧ K (c.get i.toNat) [] [b]
  | _, _, _, _ => False

def aStore : Ty → AV → Bx → AV → Kt → Prop
  | .one _, .ptr b off, .box cs, y, K => (off < cs.length ∧ y.one = true) ∧ K .undef [(b, .box (cs.set off y))] [b]
  | .flat zs, .ptr b off, .box cs, .agg vs, K => (off = 0 ∧ cs.length = zs.length ∧ vs.length = zs.length ∧ vs.all AV.one = true) ∧ K .undef [(b, .box vs)] [b]
  | .one _, .rp b n i, .row e (.ints k xs), .int k' v, K => (k = k' ∧ xs.length = n ∧ i < n) ∧ K .undef [(b, .row e (.ints k (xs.set i.toNat v)))] [b]
  | _, _, _, _, _ => False

/-! ### Calls: what the callee is handed, what comes back -/

def idx (sel : List Nat) (b : Nat) : Option Nat :=
  match sel with
  | [] => none
  | x :: r => if x = b then some 0 else (idx r b).map (· + 1)

def plainA : AV → Bool
  | .int _ _ | .bool _ | .tt | .ff | .str _ | .nil | .sl _ _ => true
  | _ => false

mutual
def inA (sel : List Nat) (bx : Nat → Bx) (c0 : SC) : AV → AV
  | .nil => .sl none c0
  | .sl _ c => .sl none c
  | .prm _ c => .sl none c
  | .ref b n => match idx sel b with
    | some i => .ref i n
    | none => match bx b with
      | .grid _ _ xss => if xss.length = n then .sl none (.rows none xss) else .undef
      | _ => match cont c0 bx (.ref b n) with
        | some c => .sl none c
        | none => .undef
  | .ptr b off => match idx sel b with
    | some i => .ptr i off
    | none => match bx b with
      | .box cs => if cs.all plainA then .pv cs off else .undef
      | .dbox cs => if cs.all plainA then .pv cs off else .undef
      | _ => .undef
  | .pv cs off => if cs.all plainA then .pv cs off else .undef
  | .agg xs => .agg (inL sel bx xs)
  | .clo f caps => .clo f (inL sel bx caps)
  | .int k n => .int k n
  | .bool b => .bool b
  | .tt => .tt
  | .ff => .ff
  | .str s => .str s
  | _ => .undef
def inL (sel : List Nat) (bx : Nat → Bx) : List AV → List AV
  | [] => []
  | x :: r => inA sel bx (.ints .i64 []) x :: inL sel bx r
end

def inArgs (sel : List Nat) (bx : Nat → Bx) : List AV → List SC → List AV
  | x :: r, c0 :: cs => inA sel bx c0 x :: inArgs sel bx r cs
  | x :: r, [] => inA sel bx (.ints .i64 []) x :: inArgs sel bx r []
  | [], _ => []

def plain1 : AV → Bool
  | .pv cs _ => cs.all plainA
  | x => plainA x

/-- A lent variable's cells: what lasts. -/
def lendA (bx : Nat → Bx) : AV → AV
  | .prm _ c => .sl none c
  | .ref b n => still bx (.ref b n)
  | .pv cs off => if cs.all plainA then .pv cs off else .undef
  | .clo f caps => if caps.all plain1 then .clo f caps else .undef
  | .ptr _ _ => .undef
  | .rp _ _ _ => .undef
  | .ep _ => .undef
  | .agg _ => .undef
  | .tup _ => .undef
  | x => x

def lend (bx : Nat → Bx) : Bx → Bx
  | .box cs => .box (cs.map (lendA bx))
  | x => x

def lendDies (bx : Nat → Bx) : Bx → List (Nat × Bx)
  | .box cs => cs.flatMap (dies bx)
  | _ => []

def okC : SC → Bool
  | .rows none _ => false
  | _ => true

mutual
def okA : AV → Bool
  | .sl none _ => false
  | .sl (some _) c => okC c
  | .rp _ _ _ | .ep _ | .pv _ _ | .undef | .skip => false
  | .clo _ caps => okL caps
  | .agg xs => okL xs
  | .tup xs => okL xs
  | _ => true
def okL : List AV → Bool
  | [] => true
  | x :: r => okA x && okL r
end

def okBx : Bx → Bool
  | .none => false
  | .box cs => okL cs
  | .row _ c => okC c
  | .grid _ _ _ => true
  | .gone => true
  | _ => false

def mp (sel : List Nat) (c : Nat) (i : Nat) : Nat := if i < sel.length then sel.getD i 0 else c + (i - sel.length)

mutual
def outA (sel : List Nat) (c : Nat) (avs : List AV) : AV → AV
  | .ref i n => .ref (mp sel c i) n
  | .ptr i off => .ptr (mp sel c i) off
  | .prm k _ => avs.getD k .undef
  | .agg xs => .agg (outL sel c avs xs)
  | .tup xs => .tup (outL sel c avs xs)
  | .clo f caps => .clo f (outL sel c avs caps)
  | x => x
def outL (sel : List Nat) (c : Nat) (avs : List AV) : List AV → List AV
  | [] => []
  | x :: r => outA sel c avs x :: outL sel c avs r
end

def outB (sel : List Nat) (c : Nat) (avs : List AV) : Bx → Bx
  | .box cs => .box (outL sel c avs cs)
  | x => x

/-- What becomes of the blocks: the lent ones, then the new ones. -/
def outU (sel : List Nat) (c : Nat) (avs : List AV) : Nat → List Bx → List (Nat × Bx)
  | _, [] => []
  | i, x :: r => (mp sel c i, outB sel c avs x) :: outU sel c avs (i + 1) r

def bxCells : Bx → List AV
  | .box cs => cs
  | _ => []

/-! Every block that a value names. -/
mutual
def deep : AV → List Nat
  | .ref b _ => [b]
  | .ptr b _ => [b]
  | .rp b _ _ => [b]
  | .ep x => deep x
  | .pv cs _ => deepL cs
  | .agg xs => deepL xs
  | .tup xs => deepL xs
  | .clo _ caps => deepL caps
  | _ => []
def deepL : List AV → List Nat
  | [] => []
  | x :: r => deep x ++ deepL r
end
def boxIds : Bx → List Nat
  | .box cs => deepL cs
  | _ => []

/-- A contract is used ('sel': the blocks that are lent). -/
def acallX (P : Program) (c : Nat) (bx : Nat → Bx) (f : AV) (avs : List AV) (cs : List SC) (K : Kt) : Prop :=
  match f with
  | .clo g caps => ∃ sel r outs, ARuns P g (inArgs sel bx avs cs ++ inL sel bx caps) (sel.map fun b => lend bx (bx b)) r outs ∧
      (sel.Nodup ∧ (sel.all fun b => match bx b with | .box _ | .row _ _ | .grid _ _ _ => true | _ => false) = true ∧ sel.length ≤ outs.length ∧ okA r = true ∧ outs.all okBx = true ∧ (sel.all fun b => (lendDies bx (bx b)).all fun p => !sel.contains p.1) = true ∧ (cs.all fun c => c.len == 0) = true ∧ (sel.all fun b => decide (b < c)) = true) ∧
      K (outA sel c (avs ++ (caps ++ sel.flatMap fun b => bxCells (bx b))) r) ((sel.flatMap fun b => lendDies bx (bx b)) ++ outU sel c (avs ++ (caps ++ sel.flatMap fun b => bxCells (bx b))) 0 outs) (sel ++ deepL (avs ++ caps) ++ (sel.flatMap fun b => boxIds (bx b)) ++ (outU sel c (avs ++ (caps ++ sel.flatMap fun b => bxCells (bx b))) 0 outs).map (·.1))
  | _ => False

/-- The contracts at hand: which arguments' blocks a function is lent; what it needs, and what it returns. -/
structure Gm where
  lend : FuncId → List Nat
  sp : FuncId → List AV → List Bx → (AV → List Bx → Prop) → Prop

def Gm.ok (Γ : Gm) (P : Program) : Prop := ∀ f args giv K, Γ.sp f args giv K → ∃ r outs, ARuns P f args giv r outs ∧ K r outs

def Gm.none : Gm := ⟨fun _ => [], fun _ _ _ _ => False⟩
def Gm.add (Γ : Gm) (f : FuncId) (l : List Nat) (sp : List AV → List Bx → (AV → List Bx → Prop) → Prop) : Gm :=
  ⟨fun g => if g = f then l else Γ.lend g, fun g => if g = f then sp else Γ.sp g⟩

theorem Gm.none_ok {P : Program} : Gm.none.ok P := fun _ _ _ _ h => h.elim
theorem Gm.add_ok {P : Program} {Γ : Gm} (h : Γ.ok P) {f : FuncId} {l : List Nat} {sp : List AV → List Bx → (AV → List Bx → Prop) → Prop}
    (hsp : ∀ args giv K, sp args giv K → ∃ r outs, ARuns P f args giv r outs ∧ K r outs) : (Γ.add f l sp).ok P := by
  intro g args giv K hk
  simp only [Gm.add] at hk
  split at hk
  · rename_i e; subst e; exact hsp _ _ _ hk
  · exact h _ _ _ _ hk

/-- What comes behind a call. -/
def kcall (c : Nat) (bx : Nat → Bx) (avs caps : List AV) (cs : List SC) (K : Kt) (sel : List Nat) : AV → List Bx → Prop := fun r outs =>
  (sel.Nodup ∧ (sel.all fun b => match bx b with | .box _ | .row _ _ | .grid _ _ _ => true | _ => false) = true ∧ sel.length ≤ outs.length ∧ okA r = true ∧ outs.all okBx = true ∧ (sel.all fun b => (lendDies bx (bx b)).all fun p => !sel.contains p.1) = true ∧ (cs.all fun c => c.len == 0) = true ∧ (sel.all fun b => decide (b < c)) = true) ∧
    K (outA sel c (avs ++ (caps ++ sel.flatMap fun b => bxCells (bx b))) r) ((sel.flatMap fun b => lendDies bx (bx b)) ++ outU sel c (avs ++ (caps ++ sel.flatMap fun b => bxCells (bx b))) 0 outs) (sel ++ deepL (avs ++ caps) ++ (sel.flatMap fun b => boxIds (bx b)) ++ (outU sel c (avs ++ (caps ++ sel.flatMap fun b => bxCells (bx b))) 0 outs).map (·.1))

/-- Which blocks are lent. -/
def selC : List AV → List Nat → List Nat
  | [], r => r
  | .ref b _ :: xs, r => b :: selC xs r
  | .ptr b _ :: xs, r => b :: selC xs r
  | _ :: xs, r => selC xs r
def selA : AV → List Nat → List Nat
  | .ref b _, r => b :: r
  | .ptr b _, r => b :: r
  | .clo _ caps, r => selC caps r
  | .agg xs, r => selC xs r
  | _, r => r
def selOf (avs : List AV) : List Nat → List Nat
  | [] => []
  | i :: r => selA (avs.getD i .undef) (selOf avs r)

def acall (Γ : Gm) (c : Nat) (bx : Nat → Bx) (f : AV) (avs : List AV) (cs : List SC) (K : Kt) : Prop :=
  match f with
  | .clo g caps => Γ.sp g (inArgs (selOf (avs ++ caps) (Γ.lend g)) bx avs cs ++ inL (selOf (avs ++ caps) (Γ.lend g)) bx caps) ((selOf (avs ++ caps) (Γ.lend g)).map fun b => lend bx (bx b)) (kcall c bx avs caps cs K (selOf (avs ++ caps) (Γ.lend g)))
  | _ => False
theorem acall_clo {Γ : Gm} {c : Nat} {bx : Nat → Bx} {g : FuncId} {caps avs : List AV} {cs : List SC} {K : Kt} : acall Γ c bx (.clo g caps) avs cs K =
    Γ.sp g (inArgs (selOf (avs ++ caps) (Γ.lend g)) bx avs cs ++ inL (selOf (avs ++ caps) (Γ.lend g)) bx caps) ((selOf (avs ++ caps) (Γ.lend g)).map fun b => lend bx (bx b)) (kcall c bx avs caps cs K (selOf (avs ++ caps) (Γ.lend g))) := id rfl
theorem add_sp {Γ : Gm} {f g : FuncId} {l : List Nat} {sp : List AV → List Bx → (AV → List Bx → Prop) → Prop} : (Γ.add f l sp).sp g = if g = f then sp else Γ.sp g := id rfl
theorem add_lend {Γ : Gm} {f g : FuncId} {l : List Nat} {sp : List AV → List Bx → (AV → List Bx → Prop) → Prop} : (Γ.add f l sp).lend g = if g = f then l else Γ.lend g := id rfl

/-- Nothing lent. -/
theorem kcall_nil {c : Nat} {bx : Nat → Bx} {avs caps : List AV} {cs : List SC} {K : Kt} {r : AV} {outs : List Bx} : kcall c bx avs caps cs K [] r outs =
    ((okA r = true ∧ outs.all okBx = true ∧ (cs.all fun c => c.len == 0) = true) ∧ K (outA [] c (avs ++ caps) r) (outU [] c (avs ++ caps) 0 outs) (deepL (avs ++ caps) ++ (outU [] c (avs ++ caps) 0 outs).map (·.1))) := by
  simp [kcall]
theorem kcall_cons {c : Nat} {bx : Nat → Bx} {avs caps : List AV} {cs : List SC} {K : Kt} {b : Nat} {sel : List Nat} {r : AV} {outs : List Bx} : kcall c bx avs caps cs K (b :: sel) r outs =
    (((b :: sel).Nodup ∧ ((b :: sel).all fun b => match bx b with | .box _ | .row _ _ | .grid _ _ _ => true | _ => false) = true ∧ (b :: sel).length ≤ outs.length ∧ okA r = true ∧ outs.all okBx = true ∧ ((b :: sel).all fun d => (lendDies bx (bx d)).all fun p => !(b :: sel).contains p.1) = true ∧ (cs.all fun c => c.len == 0) = true ∧ ((b :: sel).all fun b => decide (b < c)) = true) ∧
    K (outA (b :: sel) c (avs ++ (caps ++ (b :: sel).flatMap fun b => bxCells (bx b))) r) (((b :: sel).flatMap fun b => lendDies bx (bx b)) ++ outU (b :: sel) c (avs ++ (caps ++ (b :: sel).flatMap fun b => bxCells (bx b))) 0 outs) ((b :: sel) ++ deepL (avs ++ caps) ++ ((b :: sel).flatMap fun b => boxIds (bx b)) ++ (outU (b :: sel) c (avs ++ (caps ++ (b :: sel).flatMap fun b => bxCells (bx b))) 0 outs).map (·.1))) := id rfl

theorem acallX_of {P : Program} {Γ : Gm} (hΓ : Γ.ok P) {c : Nat} {bx : Nat → Bx} {f : AV} {avs : List AV} {cs : List SC} {K : Kt} (h : acall Γ c bx f avs cs K) : acallX P c bx f avs cs K := by
  cases f
  case clo g caps =>
    obtain ⟨r, outs, hr, h1, h2⟩ := hΓ _ _ _ _ h
    exact ⟨_, r, outs, hr, h1, h2⟩
  all_goals exact h.elim

def aLen : Option TypeDesc → AV → Kt → Prop
  | some (.slice _), .ref b n, K => K (.int .i64 n) [] []
  | some (.slice _), .nil, K => K (.int .i64 0) [] []
  | some (.slice _), .sl _ c, K => K (.int .i64 c.len) [] []
  | some (.slice _), .prm _ c, K => K (.int .i64 c.len) [] []
  | some .string, .str s, K => K (.int .i64 s.size) [] []
  | _, _, _ => False

def aMax : AV → AV → Kt → Prop
  | .int k x, .int k' y, K => K (.int k (if x < y then y else x)) [] []
  | _, _, _ => False
def aMin : AV → AV → Kt → Prop
  | .int k x, .int k' y, K => K (.int k (if y < x then y else x)) [] []
  | _, _, _ => False

def aApp (e e' : TypeId) (b n lx ld : Nat) (ac : List Nat) : Option SC → Kt → Prop
  | some x', K => (e' = e ∧ lx = n ∧ n + ld ≤ 1099511627776) ∧ K (.ref b (n + ld)) [(b, .row e x')] ac
  | none, _ => False

def aAppend (c : Nat) (ac : List Nat) : Option (TypeId × SC) → AV → Bx → Option SC → Kt → Prop
  | some (e, _), .nil, _, some d, K => d.len ≤ 1099511627776 ∧ K (.ref c d.len) [(c, .row e d)] (c :: ac)
  | some (e, _), .ref b n, .row e' x, some d, K => aApp e e' b n x.len d.len (b :: ac) (x.app d) K
  | _, _, _, _, _ => False

def SC0 : Option (TypeId × SC) → SC
  | some p => p.2
  | none => .ints .i64 []

def aSlice (ok : Bool) (ds : List (Nat × Bx)) (ac : List Nat) : Option SC → Option AV → Option AV → Option AV → Kt → Prop
  | some c, none, some (.int _ h), none, K => (ok = true ∧ 0 ≤ h ∧ h ≤ c.len) ∧ K (.sl none (c.take h.toNat)) ds ac
  | some c, some (.int _ l), none, none, K => (ok = true ∧ 0 ≤ l ∧ l ≤ c.len) ∧ K (.sl none (c.drop l.toNat)) ds ac
  | some c, some (.int _ l), some (.int _ h), none, K => (ok = true ∧ 0 ≤ l ∧ l ≤ h ∧ h ≤ c.len) ∧ K (.sl none ((c.take h.toNat).drop l.toNat)) ds ac
  | _, _, _, _, _ => False

/-- A part of a string ('E': of what is no string). -/
def aCut : AV → Option TypeDesc → Option AV → Option AV → Kt → Prop → Prop
  | .str s, some .string, none, some (.int _ h), K, _ => (0 ≤ h ∧ h ≤ s.size) ∧ K (.str (s.extract 0 h.toNat)) [] []
  | .str s, some .string, some (.int _ l), none, K, _ => (0 ≤ l ∧ l ≤ s.size) ∧ K (.str (s.extract l.toNat s.size)) [] []
  | .str s, some .string, some (.int _ l), some (.int _ h), K, _ => (0 ≤ l ∧ l ≤ h ∧ h ≤ s.size) ∧ K (.str (s.extract l.toNat h.toNat)) [] []
  | .str _, _, _, _, _, _ => False
  | _, _, _, _, _, E => E

/-- A byte of a string. -/
def aIndex : Option TypeDesc → AV → AV → Kt → Prop
  | some .string, .str s, .int _ i, K => (0 ≤ i ∧ i < s.size) ∧ K (.int .u8 (sGet s i.toNat)) [] []
  | _, _, _, _ => False

/-- A row cut to its first part and to its capacity: the row goes on under another number. -/
def aSlice3 (c : Nat) (st : Option (TypeId × SC)) (x : AV) (B : Bx) : Option AV → Option AV → Option AV → Kt → Prop
  | none, some (.int _ h), some (.int _ m), K => match st, x, B with
    | some (e, _), .ref b n, .row e' d => (e' = e ∧ h = m ∧ 0 ≤ h ∧ h ≤ n ∧ d.len = n) ∧ K (.ref c h.toNat) [(b, .gone), (c, .row e' (d.take h.toNat))] [b, c]
    | _, _, _ => False
  | _, _, _, _ => False

def aPick (g a b : AV) (K : Kt) : Prop := match g with
  | .bool g => (g = true → K a [] []) ∧ (g = false → K b [] [])
  | .tt => K a [] []
  | .ff => K b [] []
  | _ => False

def aAlloc (c : Nat) : Ty → Kt → Prop
  | .one z, K => K (.ptr c 0) [(c, .box [z])] [c]
  | .flat zs, K => K (.ptr c 0) [(c, .box zs)] [c]
  | .bad, _ => False

def aBox (c : Nat) : Option (List AV) → Kt → Prop
  | some cs, K => K (.ptr c 0) [(c, .box cs)] [c]
  | none, _ => False

def aBuild (parts : List (Nat × AV)) : Ty → Kt → Prop
  | .flat zs, K => (parts.all fun p => decide (p.1 < zs.length) && p.2.one) = true ∧ K (.agg (fillA zs parts)) [] []
  | _, _ => False

def aBuildS (c : Nat) (n : Nat) (ix : List Nat) (ds : List (Nat × Bx)) (ac : List Nat) (e : TypeId) : Option SC → Kt → Prop
  | some c1, K => (ix = List.range n ∧ n ≤ 16777216) ∧ K (.ref c n) (ds ++ [(c, .row e c1)]) (c :: ac)
  | none, _ => False

def aBuildL (c : Nat) (bx : Nat → Bx) (n : Nat) (parts : List (Nat × AV)) : Option (TypeId × SC) → Kt → Prop
  | some p, K => aBuildS c n (parts.map (·.1)) (parts.flatMap fun p => dies bx p.2) (parts.flatMap fun p => p.2.bid) p.1 (snocs p.2 (parts.map fun p => still bx p.2)) K
  | none, _ => False

def aNil : AV → Kt → Prop
  | .ptr b off, K => K (.ptr b off) [] []
  | .pv cs off, K => K (.pv cs off) [] []
  | _, _ => False

def aConv : AV → Option TypeDesc → Option TypeDesc → Kt → Prop
  | .int _ n, some _, some (.int k'), K => InR k' n ∧ K (.int k' n) [] []
  | _, _, _, _ => False

/-- Bytes become a string. -/
def aToStr : Option (TypeId × SC) → List Nat → Option SC → Kt → Prop
  | some (_, .ints .u8 _), ac, some (.ints .u8 xs), K => K (.str (strOfNums xs)) [] ac
  | _, _, _, _ => False
def aConvS (st : Option (TypeId × SC)) (ac : List Nat) (c : Option SC) (x : AV) (us : Option TypeDesc) : Option TypeDesc → Kt → Prop
  | some .string, K => aToStr st ac c K
  | ud, K => aConv x us ud K

def aField (f : Nat) : AV → Ty → Kt → Prop
  | .ptr b off, .flat zs, K => f < zs.length ∧ K (.ptr b (off + f)) [] []
  | .pv cs off, .flat zs, K => f < zs.length ∧ K (.pv cs (off + f)) [] []
  | _, _, _ => False

def aIdx (st : Option (TypeId × SC)) : AV → AV → Bx → Kt → Prop
  | .int _ i, .sl _ c, _, K => (st.isSome = true ∧ 0 ≤ i ∧ i < c.len) ∧ K (.ep (c.get i.toNat)) [] []
  | .int _ i, .prm _ c, _, K => (st.isSome = true ∧ 0 ≤ i ∧ i < c.len) ∧ K (.ep (c.get i.toNat)) [] []
  | .int _ i, .ref b n, .row _ c, K => (st.isSome = true ∧ c.len = n ∧ 0 ≤ i ∧ i < n) ∧ K (.rp b n i) [] [b]
  | .int _ i, .ref b n, .drow _ c, K => (st.isSome = true ∧ c.len = n ∧ 0 ≤ i ∧ i < n) ∧ K (.rp b n i) [] [b]
  | _, _, _, _ => False

/-- A field of a struct at hand. -/
def aFld (f : Nat) : Ty → AV → Kt → Prop
  | .flat zs, .agg xs, K => (f < zs.length ∧ f < xs.length) ∧ K (xs.getD f .undef) [] []
  | _, _, _ => False

/-- Sums and products with a great constant: they go round. -/
def isW : BinOp → Operand → Bool
  | .mul, .const (.int _ n) => decide (1152921504606846976 < n)
  | .add, .const (.int _ n) => decide (1152921504606846976 < n)
  | _, _ => false
def aWrap : BinOp → AV → AV → Kt → Prop
  | .mul, .int k x, .int k' y, K => k = k' ∧ K (.int k (k.wrap (x * y))) [] []
  | .add, .int k x, .int k' y, K => k = k' ∧ K (.int k (k.wrap (x + y))) [] []
  | _, _, _, _ => False
def aBinW (b : Bool) (op : BinOp) (ub : Option TypeDesc) (x y : AV) (K : Kt) : Prop :=
  match b with
  | true => aWrap op x y K
  | false => aBin op ub x y K

def aExtr (i : Nat) : AV → Kt → Prop
  | .tup xs, K => i < xs.length ∧ K (xs.getD i .undef) [] []
  | _, _ => False

/-- A closure: the variables that it captures die (they last as they are). -/
def capA (bx : Nat → Bx) : AV → AV
  | .ptr b 0 => match bx b with
    | .box cs => .pv (cs.map (lendA bx)) 0
    | .dbox cs => .pv (cs.map (lendA bx)) 0
    | _ => .undef
  | x => x

def SC.zeros : SC → Nat → Option SC
  | .ints k _, n => some (.ints k (List.replicate n 0))
  | _, _ => none

/-- make([]int, n) -/
def aMake (c : Nat) : Option (TypeId × SC) → AV → AV → Kt → Prop
  | some (e, .ints k _), .int _ l, .int _ m, K => (0 ≤ l ∧ l ≤ m ∧ m ≤ 1099511627776) ∧ K (.ref c l.toNat) [(c, .row e (.ints k (List.replicate l.toNat 0)))] [c]
  | some (e, .strs _), .int _ l, .int _ m, K => (l = 0 ∧ 0 ≤ m ∧ m ≤ 1099511627776) ∧ K (.ref c 0) [(c, .row e (.strs []))] [c]
  | some (e, .rows f _), .int _ l, .int _ m, K => (l = 0 ∧ 0 ≤ m ∧ m ≤ 1099511627776) ∧ K (.ref c 0) [(c, .row e (.rows f []))] [c]
  | _, _, _, _ => False

/-- What a captured pointer becomes ('mu': it stays a pointer: the closure writes what it captures). -/
def capU (bx : Nat → Bx) : AV → List (Nat × Bx)
  | .ptr b _ => match bx b with
    | .box cs => (cs.flatMap (dies bx)) ++ [(b, .dbox (cs.map (lendA bx)))]
    | _ => []
  | _ => []

/-- A function literal, with what it captures. -/
def aFunc : Fn → List Operand → List AV → Kt → Prop
  | .func f, [], caps, K => K (.clo f caps) [] []
  | _, _, _, _ => False

/-- One operation: 'c' the number of a new block; 'K' gets the result, what became of the blocks, and the blocks that were looked at. -/
def aop (P : Program) (Γ : Gm) (c : Nat) (ev : Operand → AV) (bx : Nat → Bx) (op : Op) (K : Kt) : Prop :=
  match op with
  | .move x => K (ev x) [] []
  | .assign x => K (ev x) [] []
  | .pick g a b => aPick (ev g) (ev a) (ev b) K
  | .alloc t => aAlloc c (tyOf P t) K
  | .box _ x => aBox c (ev x).cells K
  | .build t parts => aBuild (parts.toList.map fun p => (p.1, ev p.2)) (tyOf P t) K
  | .buildSlice t n parts => aBuildL c bx n (parts.toList.map fun p => (p.1, ev p.2)) (slTy P t) K
  | .load t a => aLoad (tyOf P t) (ev a) (bx (ev a).blk) K
  | .store t a x => aStore (tyOf P t) (ev a) (bx (ev a).blk) (ev x) K
  | .nilCheck x => aNil (ev x) K
  | .binOp op t x y _ => aBinW (isW op y) op (P.underlying t) (ev x) (ev y) K
  | .field t x f => aFld f (tyOf P t) (ev x) K
  | .unOp op _ x => aUn op (ev x) K
  | .convert src dst x => aConvS (slTy P src) (ev x).bid (cont (SC0 (slTy P src)) bx (ev x)) (ev x) (P.underlying src) (P.underlying dst) K
  | .fieldAddr t x f => aField f (ev x) (tyOf P t) K
  | .indexAddr t x i => aIdx (slTy P t) (ev i) (ev x) (bx (ev x).blk) K
  | .slice t x lo hi none => aCut (ev x) (P.underlying t) (lo.map ev) (hi.map ev) K (aSlice (slTy P t).isSome (dies bx (ev x)) (ev x).bid (cont (SC0 (slTy P t)) bx (ev x)) (lo.map ev) (hi.map ev) none K)
  | .index t x i => aIndex (P.underlying t) (ev x) (ev i) K
  | .slice t x lo hi (some m) => aSlice3 c (slTy P t) (ev x) (bx (ev x).blk) (lo.map ev) (hi.map ev) (some (ev m)) K
  | .extract x i => aExtr i (ev x) K
  | .makeSlice t l m => aMake c (slTy P t) (ev l) (ev m) K
  | .makeFunc fn first captured => aFunc fn first.toList (captured.toList.map ev) K
  | .call c' => match c'.callee with
    | .builtin .len => match c'.args.toList, c'.argTypes.toList with
      | [x], [t] => aLen (P.underlying t) (ev x) K
      | _, _ => False
    | .builtin .append => match c'.args.toList with
      | [x, y] => aAppend c (ev y).bid (slTy2 P c'.argTypes.toList) (ev x) (bx (ev x).blk) (cont (SC0 (slTy2 P c'.argTypes.toList)) bx (ev y)) K
      | _ => False
    | .builtin .max => match c'.args.toList with
      | [x, y] => aMax (ev x) (ev y) K
      | _ => False
    | .builtin .min => match c'.args.toList with
      | [x, y] => aMin (ev x) (ev y) K
      | _ => False
    | .value f => acall Γ c bx (ev f) (c'.args.toList.map ev) (c'.argTypes.toList.map fun t => SC0 (slTy P t)) K
    | _ => False
  | _ => False

section
variable (P : Program) (Γ : Gm) (c : Nat) (ev : Operand → AV) (bx : Nat → Bx) (K : Kt)
theorem aop_move (x : Operand) : aop P Γ c ev bx (.move x) K = K (ev x) [] [] := id rfl
theorem aop_assign (x : Operand) : aop P Γ c ev bx (.assign x) K = K (ev x) [] [] := id rfl
theorem aop_pick (g x y : Operand) : aop P Γ c ev bx (.pick g x y) K = aPick (ev g) (ev x) (ev y) K := id rfl
theorem aop_alloc (t : TypeId) : aop P Γ c ev bx (.alloc t) K = aAlloc c (tyOf P t) K := id rfl
theorem aop_box (t : TypeId) (x : Operand) : aop P Γ c ev bx (.box t x) K = aBox c (ev x).cells K := id rfl
theorem aop_build (t : TypeId) (ps : List (Nat × Operand)) : aop P Γ c ev bx (.build t ps.toArray) K = aBuild (ps.map fun p => (p.1, ev p.2)) (tyOf P t) K := id rfl
theorem aop_buildSlice (t n : Nat) (ps : List (Nat × Operand)) : aop P Γ c ev bx (.buildSlice t n ps.toArray) K = aBuildL c bx n (ps.map fun p => (p.1, ev p.2)) (slTy P t) K := id rfl
theorem aop_load (t : TypeId) (x : Operand) : aop P Γ c ev bx (.load t x) K = aLoad (tyOf P t) (ev x) (bx (ev x).blk) K := id rfl
theorem aop_store (t : TypeId) (x y : Operand) : aop P Γ c ev bx (.store t x y) K = aStore (tyOf P t) (ev x) (bx (ev x).blk) (ev y) K := id rfl
theorem aop_nilCheck (x : Operand) : aop P Γ c ev bx (.nilCheck x) K = aNil (ev x) K := id rfl
theorem aop_binOp (op : BinOp) (t u : TypeId) (x y : Operand) : aop P Γ c ev bx (.binOp op t x y u) K = aBinW (isW op y) op (P.underlying t) (ev x) (ev y) K := id rfl
theorem aop_field (t : TypeId) (x : Operand) (f : Nat) : aop P Γ c ev bx (.field t x f) K = aFld f (tyOf P t) (ev x) K := id rfl
theorem aop_unOp (op : UnOp) (t : TypeId) (x : Operand) : aop P Γ c ev bx (.unOp op t x) K = aUn op (ev x) K := id rfl
theorem aop_convert (t u : TypeId) (x : Operand) : aop P Γ c ev bx (.convert t u x) K = aConvS (slTy P t) (ev x).bid (cont (SC0 (slTy P t)) bx (ev x)) (ev x) (P.underlying t) (P.underlying u) K := id rfl
theorem aop_fieldAddr (t : TypeId) (x : Operand) (f : Nat) : aop P Γ c ev bx (.fieldAddr t x f) K = aField f (ev x) (tyOf P t) K := id rfl
theorem aop_indexAddr (t : TypeId) (x i : Operand) : aop P Γ c ev bx (.indexAddr t x i) K = aIdx (slTy P t) (ev i) (ev x) (bx (ev x).blk) K := id rfl
theorem aop_slice (t : TypeId) (x : Operand) (lo hi : Option Operand) : aop P Γ c ev bx (.slice t x lo hi none) K = aCut (ev x) (P.underlying t) (lo.map ev) (hi.map ev) K (aSlice (slTy P t).isSome (dies bx (ev x)) (ev x).bid (cont (SC0 (slTy P t)) bx (ev x)) (lo.map ev) (hi.map ev) none K) := id rfl
theorem aop_index (t : TypeId) (x i : Operand) : aop P Γ c ev bx (.index t x i) K = aIndex (P.underlying t) (ev x) (ev i) K := id rfl
theorem aop_slice3 (t : TypeId) (x m : Operand) (lo hi : Option Operand) : aop P Γ c ev bx (.slice t x lo hi (some m)) K = aSlice3 c (slTy P t) (ev x) (bx (ev x).blk) (lo.map ev) (hi.map ev) (some (ev m)) K := id rfl
theorem aop_extract (x : Operand) (i : Nat) : aop P Γ c ev bx (.extract x i) K = aExtr i (ev x) K := id rfl
theorem aop_makeSlice (t : TypeId) (l m : Operand) : aop P Γ c ev bx (.makeSlice t l m) K = aMake c (slTy P t) (ev l) (ev m) K := id rfl
theorem aop_makeFunc (f : FuncId) (cs : List Operand) : aop P Γ c ev bx (.makeFunc (.func f) #[] cs.toArray) K = K (.clo f (cs.map ev)) [] [] := id rfl
theorem aop_len (x : Operand) (t : TypeId) : aop P Γ c ev bx (.call { callee := .builtin .len, args := #[x], argTypes := #[t] }) K = aLen (P.underlying t) (ev x) K := id rfl
theorem aop_max (x y : Operand) (t : Array TypeId) : aop P Γ c ev bx (.call { callee := .builtin .max, args := #[x, y], argTypes := t }) K = aMax (ev x) (ev y) K := id rfl
theorem aop_min (x y : Operand) (t : Array TypeId) : aop P Γ c ev bx (.call { callee := .builtin .min, args := #[x, y], argTypes := t }) K = aMin (ev x) (ev y) K := id rfl
theorem aop_append (x y : Operand) (t u : TypeId) : aop P Γ c ev bx (.call { callee := .builtin .append, args := #[x, y], argTypes := #[t, u] }) K = aAppend c (ev y).bid (slTy2 P [t, u]) (ev x) (bx (ev x).blk) (cont (SC0 (slTy2 P [t, u])) bx (ev y)) K := id rfl
theorem aop_call (f : Operand) (a : List Operand) (t : List TypeId) : aop P Γ c ev bx (.call { callee := .value f, args := a.toArray, argTypes := t.toArray }) K = acall Γ c bx (ev f) (a.map ev) (t.map fun t => SC0 (slTy P t)) K := id rfl
end

structure St where
  env : List (Nat × AV)
  bx : List Bx

def St.put (s : St) (d : Option Nat) (v : AV) (u : List (Nat × Bx)) : St :=
  ⟨match d with | some d => putE s.env d v | none => s.env, setsB s.bx u⟩

def nth : List Oper → Nat → Option Nat
  | [], _ => none
  | o :: _, 0 => o.dst
  | _ :: r, n + 1 => nth r n

/-- A guard: carried out, or passed over. -/
def aGuard (d : Nat) (s : St) (Y N : St → Prop) : Bool → AV → Prop
  | true, .tt => Y s
  | true, .ff => N s
  | false, .tt => N s
  | false, .ff => Y s
  | true, .bool g => (g = true → Y ⟨putE s.env d .tt, s.bx⟩) ∧ (g = false → N ⟨putE s.env d .ff, s.bx⟩)
  | false, .bool g => (g = true → N ⟨putE s.env d .tt, s.bx⟩) ∧ (g = false → Y ⟨putE s.env d .ff, s.bx⟩)
  | _, .skip => N s
  | _, _ => False

def aGuardO (s : St) (Y N : St → Prop) (want : Bool) : Option Nat → Prop
  | some d => aGuard d s Y N want (getE s.env d)
  | none => False

/-- Operations, one behind the other. -/
def aops (P : Program) (Γ : Gm) (all : List Oper) : List Oper → St → List (List Nat) → (St → List (List Nat) → Prop) → Prop
  | [], s, ac, K => K s ac
  | o :: rest, s, ac, K => match o.guard with
    | none => aop P Γ s.bx.length (evalE s.env) (getB s.bx) o.op fun v u a => aops P Γ all rest (s.put o.dst v u) (ac ++ [a]) K
    | some g => aGuardO s (fun s => aop P Γ s.bx.length (evalE s.env) (getB s.bx) o.op fun v u a => aops P Γ all rest (s.put o.dst v u) (ac ++ [a]) K)
          (fun s => aops P Γ all rest (s.put o.dst .skip []) (ac ++ [[]]) K) g.2 (nth all g.1)

/-- What comes behind an operation (named, so that simp does not look into it before its time). -/
def kont (P : Program) (Γ : Gm) (all rest : List Oper) (s : St) (dst : Option Nat) (ac : List (List Nat)) (K : St → List (List Nat) → Prop) : Kt :=
  fun v u a => aops P Γ all rest (s.put dst v u) (ac ++ [a]) K
def yes (P : Program) (Γ : Gm) (all rest : List Oper) (op : Op) (dst : Option Nat) (ac : List (List Nat)) (K : St → List (List Nat) → Prop) : St → Prop :=
  fun s => aop P Γ s.bx.length (evalE s.env) (getB s.bx) op (kont P Γ all rest s dst ac K)
def no (P : Program) (Γ : Gm) (all rest : List Oper) (dst : Option Nat) (ac : List (List Nat)) (K : St → List (List Nat) → Prop) : St → Prop :=
  fun s => aops P Γ all rest (s.put dst .skip []) (ac ++ [[]]) K

section
variable (P : Program) (Γ : Gm) (all rest : List Oper) (s : St) (ac : List (List Nat)) (K : St → List (List Nat) → Prop) (dst : Option Nat) (op : Op) (t : TypeId) (p : String) (af : Array Edge)
theorem aops_nil : aops P Γ all [] s ac K = K s ac := id rfl
theorem aops_plain : aops P Γ all (⟨dst, op, t, p, af, none⟩ :: rest) s ac K = aop P Γ s.bx.length (evalE s.env) (getB s.bx) op (kont P Γ all rest s dst ac K) := id rfl
theorem aops_guard (j : Nat) (want : Bool) : aops P Γ all (⟨dst, op, t, p, af, some (j, want)⟩ :: rest) s ac K =
    aGuardO s (yes P Γ all rest op dst ac K) (no P Γ all rest dst ac K) want (nth all j) := id rfl
theorem kont_at (v : AV) (u : List (Nat × Bx)) (a : List Nat) : kont P Γ all rest s dst ac K v u a = aops P Γ all rest (s.put dst v u) (ac ++ [a]) K := id rfl
theorem yes_at : yes P Γ all rest op dst ac K s = aop P Γ s.bx.length (evalE s.env) (getB s.bx) op (kont P Γ all rest s dst ac K) := id rfl
theorem no_at : no P Γ all rest dst ac K s = aops P Γ all rest (s.put dst .skip []) (ac ++ [[]]) K := id rfl
end

/-! The cases, as equations. -/
theorem aGuardO_some {s : St} {Y N : St → Prop} {want : Bool} {d : Nat} : aGuardO s Y N want (some d) = aGuard d s Y N want (getE s.env d) := id rfl
theorem aGuard_tt {s : St} {Y N : St → Prop} {d : Nat} : aGuard d s Y N true .tt = Y s := id rfl
theorem aGuard_tf {s : St} {Y N : St → Prop} {d : Nat} : aGuard d s Y N true .ff = N s := id rfl
theorem aGuard_ft {s : St} {Y N : St → Prop} {d : Nat} : aGuard d s Y N false .tt = N s := id rfl
theorem aGuard_ff {s : St} {Y N : St → Prop} {d : Nat} : aGuard d s Y N false .ff = Y s := id rfl
theorem aGuard_tb {s : St} {Y N : St → Prop} {d : Nat} {g : Bool} : aGuard d s Y N true (.bool g) = ((g = true → Y ⟨putE s.env d .tt, s.bx⟩) ∧ (g = false → N ⟨putE s.env d .ff, s.bx⟩)) := id rfl
theorem aGuard_fb {s : St} {Y N : St → Prop} {d : Nat} {g : Bool} : aGuard d s Y N false (.bool g) = ((g = true → N ⟨putE s.env d .tt, s.bx⟩) ∧ (g = false → Y ⟨putE s.env d .ff, s.bx⟩)) := id rfl
theorem aGuard_ts {s : St} {Y N : St → Prop} {d : Nat} : aGuard d s Y N true .skip = N s := id rfl
theorem aGuard_fs {s : St} {Y N : St → Prop} {d : Nat} : aGuard d s Y N false .skip = N s := id rfl
theorem aPick_b {K : Kt} {g : Bool} {a b : AV} : aPick (.bool g) a b K = ((g = true → K a [] []) ∧ (g = false → K b [] [])) := id rfl
theorem aPick_t {K : Kt} {a b : AV} : aPick .tt a b K = K a [] [] := id rfl
theorem aPick_f {K : Kt} {a b : AV} : aPick .ff a b K = K b [] [] := id rfl
theorem aAlloc_one {K : Kt} {c : Nat} {z : AV} : aAlloc c (.one z) K = K (.ptr c 0) [(c, .box [z])] [c] := id rfl
theorem aAlloc_flat {K : Kt} {c : Nat} {zs : List AV} : aAlloc c (.flat zs) K = K (.ptr c 0) [(c, .box zs)] [c] := id rfl
theorem aBox_some {K : Kt} {c : Nat} {cs : List AV} : aBox c (some cs) K = K (.ptr c 0) [(c, .box cs)] [c] := id rfl
theorem aBuild_flat {K : Kt} {ps : List (Nat × AV)} {zs : List AV} : aBuild ps (.flat zs) K = ((ps.all fun p => decide (p.1 < zs.length) && p.2.one) = true ∧ K (.agg (fillA zs ps)) [] []) := id rfl
theorem aInt_add {K : Kt} {k : IntKind} {x y : Int} : aInt .add k x y K = (InR k (x + y) ∧ K (.int k (x + y)) [] []) := id rfl
theorem aBin_add {K : Kt} {k k' : IntKind} {x y : Int} {ub : Option TypeDesc} : aBin .add ub (.int k x) (.int k' y) K = (k = k' ∧ aInt .add k x y K) := id rfl
theorem aInt_sub {K : Kt} {k : IntKind} {x y : Int} : aInt .sub k x y K = (InR k (x - y) ∧ K (.int k (x - y)) [] []) := id rfl
theorem aBin_sub {K : Kt} {k k' : IntKind} {x y : Int} {ub : Option TypeDesc} : aBin .sub ub (.int k x) (.int k' y) K = (k = k' ∧ aInt .sub k x y K) := id rfl
theorem aInt_mul {K : Kt} {k : IntKind} {x y : Int} : aInt .mul k x y K = (InR k (x * y) ∧ K (.int k (x * y)) [] []) := id rfl
theorem aBin_mul {K : Kt} {k k' : IntKind} {x y : Int} {ub : Option TypeDesc} : aBin .mul ub (.int k x) (.int k' y) K = (k = k' ∧ aInt .mul k x y K) := id rfl
theorem aInt_quo {K : Kt} {k : IntKind} {x y : Int} : aInt .quo k x y K = ((y ≠ 0 ∧ InR k (x.tdiv y)) ∧ K (.int k (x.tdiv y)) [] []) := id rfl
theorem aBin_quo {K : Kt} {k k' : IntKind} {x y : Int} {ub : Option TypeDesc} : aBin .quo ub (.int k x) (.int k' y) K = (k = k' ∧ aInt .quo k x y K) := id rfl
theorem aInt_rem {K : Kt} {k : IntKind} {x y : Int} : aInt .rem k x y K = (y ≠ 0 ∧ K (.int k (x.tmod y)) [] []) := id rfl
theorem aBin_rem {K : Kt} {k k' : IntKind} {x y : Int} {ub : Option TypeDesc} : aBin .rem ub (.int k x) (.int k' y) K = (k = k' ∧ aInt .rem k x y K) := id rfl
theorem aInt_and {K : Kt} {k : IntKind} {x y : Int} : aInt .and k x y K = (K (.int k (band k x y)) [] []) := id rfl
theorem aBin_and {K : Kt} {k k' : IntKind} {x y : Int} {ub : Option TypeDesc} : aBin .and ub (.int k x) (.int k' y) K = (k = k' ∧ aInt .and k x y K) := id rfl
theorem aInt_or {K : Kt} {k : IntKind} {x y : Int} : aInt .or k x y K = (K (.int k (bor k x y)) [] []) := id rfl
theorem aBin_or {K : Kt} {k k' : IntKind} {x y : Int} {ub : Option TypeDesc} : aBin .or ub (.int k x) (.int k' y) K = (k = k' ∧ aInt .or k x y K) := id rfl
theorem aInt_xor {K : Kt} {k : IntKind} {x y : Int} : aInt .xor k x y K = (K (.int k (bxor k x y)) [] []) := id rfl
theorem aBin_xor {K : Kt} {k k' : IntKind} {x y : Int} {ub : Option TypeDesc} : aBin .xor ub (.int k x) (.int k' y) K = (k = k' ∧ aInt .xor k x y K) := id rfl
theorem aInt_andNot {K : Kt} {k : IntKind} {x y : Int} : aInt .andNot k x y K = (K (.int k (bandn k x y)) [] []) := id rfl
theorem aBin_andNot {K : Kt} {k k' : IntKind} {x y : Int} {ub : Option TypeDesc} : aBin .andNot ub (.int k x) (.int k' y) K = (k = k' ∧ aInt .andNot k x y K) := id rfl
theorem aInt_eql {K : Kt} {k : IntKind} {x y : Int} : aInt .eql k x y K = (K (.bool (decide (x = y))) [] []) := id rfl
theorem aBin_eql {K : Kt} {k k' : IntKind} {x y : Int} {ub : Option TypeDesc} : aBin .eql ub (.int k x) (.int k' y) K = (k = k' ∧ aInt .eql k x y K) := id rfl
theorem aInt_neq {K : Kt} {k : IntKind} {x y : Int} : aInt .neq k x y K = (K (.bool (!decide (x = y))) [] []) := id rfl
theorem aBin_neq {K : Kt} {k k' : IntKind} {x y : Int} {ub : Option TypeDesc} : aBin .neq ub (.int k x) (.int k' y) K = (k = k' ∧ aInt .neq k x y K) := id rfl
theorem aInt_lss {K : Kt} {k : IntKind} {x y : Int} : aInt .lss k x y K = (K (.bool (decide (x < y))) [] []) := id rfl
theorem aBin_lss {K : Kt} {k k' : IntKind} {x y : Int} {ub : Option TypeDesc} : aBin .lss ub (.int k x) (.int k' y) K = (k = k' ∧ aInt .lss k x y K) := id rfl
theorem aInt_leq {K : Kt} {k : IntKind} {x y : Int} : aInt .leq k x y K = (K (.bool (decide (x ≤ y))) [] []) := id rfl
theorem aBin_leq {K : Kt} {k k' : IntKind} {x y : Int} {ub : Option TypeDesc} : aBin .leq ub (.int k x) (.int k' y) K = (k = k' ∧ aInt .leq k x y K) := id rfl
theorem aInt_gtr {K : Kt} {k : IntKind} {x y : Int} : aInt .gtr k x y K = (K (.bool (decide (y < x))) [] []) := id rfl
theorem aBin_gtr {K : Kt} {k k' : IntKind} {x y : Int} {ub : Option TypeDesc} : aBin .gtr ub (.int k x) (.int k' y) K = (k = k' ∧ aInt .gtr k x y K) := id rfl
theorem aInt_geq {K : Kt} {k : IntKind} {x y : Int} : aInt .geq k x y K = (K (.bool (decide (y ≤ x))) [] []) := id rfl
theorem aBin_geq {K : Kt} {k k' : IntKind} {x y : Int} {ub : Option TypeDesc} : aBin .geq ub (.int k x) (.int k' y) K = (k = k' ∧ aInt .geq k x y K) := id rfl
theorem aBin_shl {K : Kt} {k k' : IntKind} {x y : Int} {ub : Option TypeDesc} : aBin .shl ub (.int k x) (.int k' y) K = aShift .shl k x y K := id rfl
theorem aBin_shr {K : Kt} {k k' : IntKind} {x y : Int} {ub : Option TypeDesc} : aBin .shr ub (.int k x) (.int k' y) K = aShift .shr k x y K := id rfl
theorem aShift_shl {K : Kt} {k : IntKind} {x y : Int} : aShift .shl k x y K = ((0 ≤ y ∧ y ≤ k.bits ∧ InR k (x * 2 ^ y.toNat)) ∧ K (.int k (x * 2 ^ y.toNat)) [] []) := id rfl
theorem aShift_shr {K : Kt} {k : IntKind} {x y : Int} : aShift .shr k x y K = ((0 ≤ y ∧ y ≤ k.bits) ∧ K (.int k (x / 2 ^ y.toNat)) [] []) := id rfl
theorem aBin_be1 {K : Kt} {x y : Bool} : aBin .eql (some .bool) (.bool x) (.bool y) K = K (.bool (x == y)) [] [] := id rfl
theorem aBin_bn1 {K : Kt} {x y : Bool} : aBin .neq (some .bool) (.bool x) (.bool y) K = K (.bool (x != y)) [] [] := id rfl
theorem aBin_be2 {K : Kt} {x : Bool} : aBin .eql (some .bool) (.bool x) .tt K = K (.bool x) [] [] := id rfl
theorem aBin_bn2 {K : Kt} {x : Bool} : aBin .neq (some .bool) (.bool x) .tt K = K (.bool (!x)) [] [] := id rfl
theorem aBin_be3 {K : Kt} {x : Bool} : aBin .eql (some .bool) (.bool x) .ff K = K (.bool (!x)) [] [] := id rfl
theorem aBin_bn3 {K : Kt} {x : Bool} : aBin .neq (some .bool) (.bool x) .ff K = K (.bool x) [] [] := id rfl
theorem aBin_be4 {K : Kt} {x : Bool} : aBin .eql (some .bool) .tt (.bool x) K = K (.bool x) [] [] := id rfl
theorem aBin_bn4 {K : Kt} {x : Bool} : aBin .neq (some .bool) .tt (.bool x) K = K (.bool (!x)) [] [] := id rfl
theorem aBin_be5 {K : Kt} {x : Bool} : aBin .eql (some .bool) .ff (.bool x) K = K (.bool (!x)) [] [] := id rfl
theorem aBin_bn5 {K : Kt} {x : Bool} : aBin .neq (some .bool) .ff (.bool x) K = K (.bool x) [] [] := id rfl
theorem aBin_be6 {K : Kt} : aBin .eql (some .bool) .tt .tt K = K .tt [] [] := id rfl
theorem aBin_bn6 {K : Kt} : aBin .neq (some .bool) .tt .tt K = K .ff [] [] := id rfl
theorem aBin_be7 {K : Kt} : aBin .eql (some .bool) .tt .ff K = K .ff [] [] := id rfl
theorem aBin_bn7 {K : Kt} : aBin .neq (some .bool) .tt .ff K = K .tt [] [] := id rfl
theorem aBin_be8 {K : Kt} : aBin .eql (some .bool) .ff .tt K = K .ff [] [] := id rfl
theorem aBin_bn8 {K : Kt} : aBin .neq (some .bool) .ff .tt K = K .tt [] [] := id rfl
theorem aBin_be9 {K : Kt} : aBin .eql (some .bool) .ff .ff K = K .tt [] [] := id rfl
theorem aBin_bn9 {K : Kt} : aBin .neq (some .bool) .ff .ff K = K .ff [] [] := id rfl
theorem aUn_b {K : Kt} {b : Bool} : aUn .not (.bool b) K = K (.bool (!b)) [] [] := id rfl
theorem aUn_t {K : Kt} : aUn .not .tt K = K .ff [] [] := id rfl
theorem aUn_f {K : Kt} : aUn .not .ff K = K .tt [] [] := id rfl
theorem aUn_i {K : Kt} {k : IntKind} {n : Int} : aUn .neg (.int k n) K = (InR k (0 - n) ∧ K (.int k (0 - n)) [] []) := id rfl
theorem aNil_ptr {K : Kt} {b off : Nat} : aNil (.ptr b off) K = K (.ptr b off) [] [] := id rfl
theorem aNil_pv {K : Kt} {cs : List AV} {off : Nat} : aNil (.pv cs off) K = K (.pv cs off) [] [] := id rfl
theorem aBin_sadd {K : Kt} {x y : ByteArray} : aBin .add (some .string) (.str x) (.str y) K = (x.size + y.size ≤ 9223372036854775807 ∧ K (.str (x ++ y)) [] []) := id rfl
theorem aBin_seql {K : Kt} {x y : ByteArray} : aBin .eql (some .string) (.str x) (.str y) K = K (.bool (sEq x y)) [] [] := id rfl
theorem aBin_sneq {K : Kt} {x y : ByteArray} : aBin .neq (some .string) (.str x) (.str y) K = K (.bool (!sEq x y)) [] [] := id rfl
theorem aIndex_str {K : Kt} {s : ByteArray} {k : IntKind} {i : Int} : aIndex (some .string) (.str s) (.int k i) K = ((0 ≤ i ∧ i < s.size) ∧ K (.int .u8 (sGet s i.toNat)) [] []) := id rfl
theorem aCut_h {K : Kt} {s : ByteArray} {k : IntKind} {h : Int} {E : Prop} : aCut (.str s) (some .string) none (some (.int k h)) K E = ((0 ≤ h ∧ h ≤ s.size) ∧ K (.str (s.extract 0 h.toNat)) [] []) := id rfl
theorem aCut_l {K : Kt} {s : ByteArray} {k : IntKind} {l : Int} {E : Prop} : aCut (.str s) (some .string) (some (.int k l)) none K E = ((0 ≤ l ∧ l ≤ s.size) ∧ K (.str (s.extract l.toNat s.size)) [] []) := id rfl
theorem aCut_lh {K : Kt} {s : ByteArray} {k j : IntKind} {l h : Int} {E : Prop} : aCut (.str s) (some .string) (some (.int k l)) (some (.int j h)) K E = ((0 ≤ l ∧ l ≤ h ∧ h ≤ s.size) ∧ K (.str (s.extract l.toNat h.toNat)) [] []) := id rfl
theorem aCut_nil {K : Kt} {u : Option TypeDesc} {l h : Option AV} {E : Prop} : aCut .nil u l h K E = E := id rfl
theorem aCut_sl {K : Kt} {u : Option TypeDesc} {l h : Option AV} {E : Prop} {fr : Option TypeId} {c : SC} : aCut (.sl fr c) u l h K E = E := id rfl
theorem aCut_prm {K : Kt} {u : Option TypeDesc} {l h : Option AV} {E : Prop} {k : Nat} {c : SC} : aCut (.prm k c) u l h K E = E := id rfl
theorem aCut_ref {K : Kt} {u : Option TypeDesc} {l h : Option AV} {E : Prop} {b n : Nat} : aCut (.ref b n) u l h K E = E := id rfl
theorem aConvS_int {K : Kt} {st : Option (TypeId × SC)} {ac : List Nat} {c : Option SC} {x : AV} {us : Option TypeDesc} {k : IntKind} : aConvS st ac c x us (some (.int k)) K = aConv x us (some (.int k)) K := id rfl
theorem aConvS_str {K : Kt} {st : Option (TypeId × SC)} {ac : List Nat} {c : Option SC} {x : AV} {us : Option TypeDesc} : aConvS st ac c x us (some .string) K = aToStr st ac c K := id rfl
theorem aToStr_at {K : Kt} {e : TypeId} {zs xs : List Int} {ac : List Nat} : aToStr (some (e, .ints .u8 zs)) ac (some (.ints .u8 xs)) K = K (.str (strOfNums xs)) [] ac := id rfl
theorem isW_adds {s : ByteArray} : isW .add (.const (.string s)) = false := id rfl
theorem aConv_int {K : Kt} {j k' : IntKind} {n : Int} {d : TypeDesc} : aConv (.int j n) (some d) (some (.int k')) K = (InR k' n ∧ K (.int k' n) [] []) := id rfl
theorem aField_ptr {K : Kt} {f b off : Nat} {zs : List AV} : aField f (.ptr b off) (.flat zs) K = (f < zs.length ∧ K (.ptr b (off + f)) [] []) := id rfl
theorem aField_pv {K : Kt} {f off : Nat} {cs zs : List AV} : aField f (.pv cs off) (.flat zs) K = (f < zs.length ∧ K (.pv cs (off + f)) [] []) := id rfl
theorem aIdx_sl {K : Kt} {st : Option (TypeId × SC)} {k : IntKind} {i : Int} {fr : Option TypeId} {c : SC} {x : Bx} : aIdx st (.int k i) (.sl fr c) x K = ((st.isSome = true ∧ 0 ≤ i ∧ i < c.len) ∧ K (.ep (c.get i.toNat)) [] []) := id rfl
theorem aIdx_prm {K : Kt} {st : Option (TypeId × SC)} {k : IntKind} {i : Int} {j : Nat} {c : SC} {x : Bx} : aIdx st (.int k i) (.prm j c) x K = ((st.isSome = true ∧ 0 ≤ i ∧ i < c.len) ∧ K (.ep (c.get i.toNat)) [] []) := id rfl
theorem aIdx_row {K : Kt} {st : Option (TypeId × SC)} {k : IntKind} {i : Int} {b n : Nat} {e : TypeId} {c : SC} : aIdx st (.int k i) (.ref b n) (.row e c) K = ((st.isSome = true ∧ c.len = n ∧ 0 ≤ i ∧ i < n) ∧ K (.rp b n i) [] [b]) := id rfl
theorem aIdx_drow {K : Kt} {st : Option (TypeId × SC)} {k : IntKind} {i : Int} {b n : Nat} {e : TypeId} {c : SC} : aIdx st (.int k i) (.ref b n) (.drow e c) K = ((st.isSome = true ∧ c.len = n ∧ 0 ≤ i ∧ i < n) ∧ K (.rp b n i) [] [b]) := id rfl
theorem aMake_i {K : Kt} {c : Nat} {e : TypeId} {k j j' : IntKind} {xs : List Int} {l m : Int} : aMake c (some (e, .ints k xs)) (.int j l) (.int j' m) K = ((0 ≤ l ∧ l ≤ m ∧ m ≤ 1099511627776) ∧ K (.ref c l.toNat) [(c, .row e (.ints k (List.replicate l.toNat 0)))] [c]) := id rfl
theorem aMake_s {K : Kt} {c : Nat} {e : TypeId} {j j' : IntKind} {xs : List ByteArray} {l m : Int} : aMake c (some (e, .strs xs)) (.int j l) (.int j' m) K = ((l = 0 ∧ 0 ≤ m ∧ m ≤ 1099511627776) ∧ K (.ref c 0) [(c, .row e (.strs []))] [c]) := id rfl
theorem aFld_agg {K : Kt} {f : Nat} {zs xs : List AV} : aFld f (.flat zs) (.agg xs) K = ((f < zs.length ∧ f < xs.length) ∧ K (xs.getD f .undef) [] []) := id rfl
theorem aBinW_f {K : Kt} {op : BinOp} {ub : Option TypeDesc} {x y : AV} : aBinW false op ub x y K = aBin op ub x y K := id rfl
theorem aBinW_t {K : Kt} {op : BinOp} {ub : Option TypeDesc} {x y : AV} : aBinW true op ub x y K = aWrap op x y K := id rfl
theorem aBinW_dF {K : Kt} {op : BinOp} {ub : Option TypeDesc} {x y : AV} {h : Decidable False} : aBinW (@decide False h) op ub x y K = aBin op ub x y K := by
  cases h with
  | isFalse _ => rfl
  | isTrue h => exact h.elim
theorem aBinW_dT {K : Kt} {op : BinOp} {ub : Option TypeDesc} {x y : AV} {h : Decidable True} : aBinW (@decide True h) op ub x y K = aWrap op x y K := by
  cases h with
  | isFalse h => exact (h trivial).elim
  | isTrue _ => rfl
theorem aWrap_mul {K : Kt} {k k' : IntKind} {x y : Int} : aWrap .mul (.int k x) (.int k' y) K = (k = k' ∧ K (.int k (k.wrap (x * y))) [] []) := id rfl
theorem aWrap_add {K : Kt} {k k' : IntKind} {x y : Int} : aWrap .add (.int k x) (.int k' y) K = (k = k' ∧ K (.int k (k.wrap (x + y))) [] []) := id rfl
theorem isW_tmp {op : BinOp} {t : Nat} : isW op (.tmp t) = false := by cases op <;> rfl
theorem isW_mulc {k : IntKind} {n : Int} : isW .mul (.const (.int k n)) = decide (1152921504606846976 < n) := id rfl
theorem isW_addc {k : IntKind} {n : Int} : isW .add (.const (.int k n)) = decide (1152921504606846976 < n) := id rfl
theorem isW_sub {y : Operand} : isW .sub y = false := by cases y <;> rfl
theorem isW_quo {y : Operand} : isW .quo y = false := by cases y <;> rfl
theorem isW_rem {y : Operand} : isW .rem y = false := by cases y <;> rfl
theorem isW_and {y : Operand} : isW .and y = false := by cases y <;> rfl
theorem isW_or {y : Operand} : isW .or y = false := by cases y <;> rfl
theorem isW_xor {y : Operand} : isW .xor y = false := by cases y <;> rfl
theorem isW_andNot {y : Operand} : isW .andNot y = false := by cases y <;> rfl
theorem isW_shl {y : Operand} : isW .shl y = false := by cases y <;> rfl
theorem isW_shr {y : Operand} : isW .shr y = false := by cases y <;> rfl
theorem isW_eql {y : Operand} : isW .eql y = false := by cases y <;> rfl
theorem isW_neq {y : Operand} : isW .neq y = false := by cases y <;> rfl
theorem isW_lss {y : Operand} : isW .lss y = false := by cases y <;> rfl
theorem isW_leq {y : Operand} : isW .leq y = false := by cases y <;> rfl
theorem isW_gtr {y : Operand} : isW .gtr y = false := by cases y <;> rfl
theorem isW_geq {y : Operand} : isW .geq y = false := by cases y <;> rfl
theorem aExtr_tup {K : Kt} {i : Nat} {xs : List AV} : aExtr i (.tup xs) K = (i < xs.length ∧ K (xs.getD i .undef) [] []) := id rfl
theorem aLen_ref {K : Kt} {e : TypeId} {b n : Nat} : aLen (some (.slice e)) (.ref b n) K = K (.int .i64 n) [] [] := id rfl
theorem aLen_nil {K : Kt} {e : TypeId} : aLen (some (.slice e)) .nil K = K (.int .i64 0) [] [] := id rfl
theorem aLen_sl {K : Kt} {e : TypeId} {fr : Option TypeId} {c : SC} : aLen (some (.slice e)) (.sl fr c) K = K (.int .i64 c.len) [] [] := id rfl
theorem aLen_prm {K : Kt} {e : TypeId} {j : Nat} {c : SC} : aLen (some (.slice e)) (.prm j c) K = K (.int .i64 c.len) [] [] := id rfl
theorem aLen_str {K : Kt} {x : ByteArray} : aLen (some .string) (.str x) K = K (.int .i64 x.size) [] [] := id rfl
theorem aMax_int {K : Kt} {k k' : IntKind} {x y : Int} : aMax (.int k x) (.int k' y) K = K (.int k (if x < y then y else x)) [] [] := id rfl
theorem aMin_int {K : Kt} {k k' : IntKind} {x y : Int} : aMin (.int k x) (.int k' y) K = K (.int k (if y < x then y else x)) [] [] := id rfl
theorem aBuildL_some {K : Kt} {c : Nat} {bx : Nat → Bx} {n : Nat} {ps : List (Nat × AV)} {p : TypeId × SC} : aBuildL c bx n ps (some p) K = aBuildS c n (ps.map (·.1)) (ps.flatMap fun p => dies bx p.2) (ps.flatMap fun p => p.2.bid) p.1 (snocs p.2 (ps.map fun p => still bx p.2)) K := id rfl
theorem aBuildS_some {K : Kt} {c n : Nat} {ix : List Nat} {ds : List (Nat × Bx)} {ac : List Nat} {e : TypeId} {c1 : SC} : aBuildS c n ix ds ac e (some c1) K = ((ix = List.range n ∧ n ≤ 16777216) ∧ K (.ref c n) (ds ++ [(c, .row e c1)]) (c :: ac)) := id rfl
theorem aLoad_1b {K : Kt} {z : AV} {b off : Nat} {cs : List AV} : aLoad (.one z) (.ptr b off) (.box cs) K = (off < cs.length ∧ K (cs.getD off .undef) [] [b]) := id rfl
theorem aLoad_1d {K : Kt} {z : AV} {b off : Nat} {cs : List AV} : aLoad (.one z) (.ptr b off) (.dbox cs) K = (off < cs.length ∧ K (cs.getD off .undef) [] [b]) := id rfl
theorem aLoad_fb {K : Kt} {zs : List AV} {b off : Nat} {cs : List AV} : aLoad (.flat zs) (.ptr b off) (.box cs) K = ((off = 0 ∧ cs.length = zs.length) ∧ K (.agg cs) [] [b]) := id rfl
theorem aLoad_fd {K : Kt} {zs : List AV} {b off : Nat} {cs : List AV} : aLoad (.flat zs) (.ptr b off) (.dbox cs) K = ((off = 0 ∧ cs.length = zs.length) ∧ K (.agg cs) [] [b]) := id rfl
theorem aLoad_1p {K : Kt} {z : AV} {off : Nat} {cs : List AV} {x : Bx} : aLoad (.one z) (.pv cs off) x K = (off < cs.length ∧ K (cs.getD off .undef) [] []) := id rfl
theorem aLoad_fp {K : Kt} {zs : List AV} {off : Nat} {cs : List AV} {x : Bx} : aLoad (.flat zs) (.pv cs off) x K = ((off = 0 ∧ cs.length = zs.length) ∧ K (.agg cs) [] []) := id rfl
theorem aLoad_ep {K : Kt} {z y : AV} {x : Bx} : aLoad (.one z) (.ep y) x K = K y [] [] := id rfl
theorem aLoad_rr {K : Kt} {z : AV} {b n : Nat} {i : Int} {e : TypeId} {c : SC} : aLoad (.one z) (.rp b n i) (.row e c) K = ((c.len = n ∧ i < n) ∧ K (c.get i.toNat) [] [b]) := id rfl
theorem aLoad_rd {K : Kt} {z : AV} {b n : Nat} {i : Int} {e : TypeId} {c : SC} : aLoad (.one z) (.rp b n i) (.drow e c) K = ((c.len = n ∧ i < n) ∧ K (c.get i.toNat) [] [b]) := id rfl
theorem aStore_1 {K : Kt} {z y : AV} {b off : Nat} {cs : List AV} : aStore (.one z) (.ptr b off) (.box cs) y K = ((off < cs.length ∧ y.one = true) ∧ K .undef [(b, .box (cs.set off y))] [b]) := id rfl
theorem aStore_f {K : Kt} {zs vs : List AV} {b off : Nat} {cs : List AV} : aStore (.flat zs) (.ptr b off) (.box cs) (.agg vs) K = ((off = 0 ∧ cs.length = zs.length ∧ vs.length = zs.length ∧ vs.all AV.one = true) ∧ K .undef [(b, .box vs)] [b]) := id rfl
theorem aStore_r {K : Kt} {z : AV} {b n : Nat} {i : Int} {e : TypeId} {k k' : IntKind} {xs : List Int} {v : Int} : aStore (.one z) (.rp b n i) (.row e (.ints k xs)) (.int k' v) K = ((k = k' ∧ xs.length = n ∧ i < n) ∧ K .undef [(b, .row e (.ints k (xs.set i.toNat v)))] [b]) := id rfl
theorem aApp_some {K : Kt} {e e' : TypeId} {b n lx ld : Nat} {ac : List Nat} {x' : SC} : aApp e e' b n lx ld ac (some x') K = ((e' = e ∧ lx = n ∧ n + ld ≤ 1099511627776) ∧ K (.ref b (n + ld)) [(b, .row e x')] ac) := id rfl
theorem aAppend_nil {K : Kt} {c : Nat} {ac : List Nat} {e : TypeId} {c0 d : SC} {x : Bx} : aAppend c ac (some (e, c0)) .nil x (some d) K = (d.len ≤ 1099511627776 ∧ K (.ref c d.len) [(c, .row e d)] (c :: ac)) := id rfl
theorem aAppend_ref {K : Kt} {c b n : Nat} {ac : List Nat} {e e' : TypeId} {c0 x d : SC} : aAppend c ac (some (e, c0)) (.ref b n) (.row e' x) (some d) K = aApp e e' b n x.len d.len (b :: ac) (x.app d) K := id rfl
theorem aSlice3_r {K : Kt} {c b n : Nat} {e e' : TypeId} {c0 d : SC} {k k' : IntKind} {h m : Int} : aSlice3 c (some (e, c0)) (.ref b n) (.row e' d) none (some (.int k h)) (some (.int k' m)) K = ((e' = e ∧ h = m ∧ 0 ≤ h ∧ h ≤ n ∧ d.len = n) ∧ K (.ref c h.toNat) [(b, .gone), (c, .row e' (d.take h.toNat))] [b, c]) := id rfl
theorem aSlice_h {K : Kt} {ok : Bool} {ds : List (Nat × Bx)} {ac : List Nat} {c : SC} {k : IntKind} {h : Int} : aSlice ok ds ac (some c) none (some (.int k h)) none K = ((ok = true ∧ 0 ≤ h ∧ h ≤ c.len) ∧ K (.sl none (c.take h.toNat)) ds ac) := id rfl
theorem aSlice_l {K : Kt} {ok : Bool} {ds : List (Nat × Bx)} {ac : List Nat} {c : SC} {k : IntKind} {l : Int} : aSlice ok ds ac (some c) (some (.int k l)) none none K = ((ok = true ∧ 0 ≤ l ∧ l ≤ c.len) ∧ K (.sl none (c.drop l.toNat)) ds ac) := id rfl
theorem aSlice_lh {K : Kt} {ok : Bool} {ds : List (Nat × Bx)} {ac : List Nat} {c : SC} {k j : IntKind} {l h : Int} : aSlice ok ds ac (some c) (some (.int k l)) (some (.int j h)) none K = ((ok = true ∧ 0 ≤ l ∧ l ≤ h ∧ h ≤ c.len) ∧ K (.sl none ((c.take h.toNat).drop l.toNat)) ds ac) := id rfl

end AM
end Go.Proofs.YtbookhehpebcmaaGreatDoor
