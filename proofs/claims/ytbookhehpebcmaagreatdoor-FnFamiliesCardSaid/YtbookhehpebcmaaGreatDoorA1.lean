/-
  An abstract machine over the kit's Code.wp, and its soundness: part 1, what it speaks of. Slices are read as lists, blocks of the call's own are numbered.
-/
import Derived.Test.YtbookhehpebcmaaGreatDoorA0
import Derived.WalkKit
import Derived.ProofKit
namespace Go.Proofs.YtbookhehpebcmaaGreatDoor
namespace AM
set_option linter.unusedVariables false

/-- A slice's content. -/
inductive SC where
  | ints (k : IntKind) (xs : List Int)
  | rows (fr : Option TypeId) (xss : List (List Int))
  | strs (ss : List ByteArray)

/-- What a slot holds. -/
inductive AV where
  | undef
  | skip
  | int (k : IntKind) (n : Int)
  | bool (b : Bool)
  | tt
  | ff
  | str (s : ByteArray)
  | nil
  | sl (fr : Option TypeId) (c : SC)
  | prm (k : Nat) (c : SC)
  | ref (b n : Nat)
  | ptr (b off : Nat)
  | rp (b n : Nat) (i : Int)
  | ep (x : AV)
  | pv (cells : List AV) (off : Nat)
  | agg (xs : List AV)
  | tup (xs : List AV)
  | clo (f : FuncId) (caps : List AV)

/-- A numbered block: a variable (or struct) in memory, a row that is ours alone; each alive, or dead (it lasts as it is). -/
inductive Bx where
  | none
  | box (cells : List AV)
  | dbox (cells : List AV)
  | row (e : TypeId) (c : SC)
  | drow (e : TypeId) (c : SC)
  | grid (e t : TypeId) (xss : List (List Int))
  | gone

def SC.len : SC → Nat
  | .ints _ xs => xs.length
  | .rows _ xss => xss.length
  | .strs ss => ss.length

def SC.get : SC → Nat → AV
  | .ints k xs, i => .int k (xs.getD i 0)
  | .rows fr xss, i => .sl fr (.ints .i64 (xss.getD i []))
  | .strs ss, i => .str (ss.getD i ⟨#[]⟩)

/-- The cells of a view: they lie in blocks that nobody writes. -/
def CellIs (w : World) (M : Nat → Prop) (a : Option Addr) (i : Nat) (u : Value) : Prop :=
  ∃ ad, a = some ad ∧ ad.spot = none ∧ ¬ M ad.block ∧ w.cell? ⟨ad.block, ad.off + i, none⟩ = some u

/-- A slice that is a whole row of the call's own making: none, or from a block's head on. -/
def Shape (w : World) (M F : Nat → Prop) (e : TypeId) (v : Value) : Prop :=
  v = .slice none 0 0 ∨ ∃ k n cap cur, v = .slice (some ⟨k, 0, none⟩) n cap ∧ w.heap[k]? = some (.cells cur e (0, 0)) ∧ cap ≤ cur.size ∧ F k ∧ ¬ M k

def Shapes (w : World) (M F : Nat → Prop) (v : Value) : Option TypeId → Prop
  | none => True
  | some e => Shape w M F e v

def VwI (w : World) (M F : Nat → Prop) (fr : Option TypeId) (v : Value) (xs : List Int) : Prop :=
  (∃ a cap, v = .slice a xs.length cap ∧ xs.length ≤ cap ∧ cap ≤ maxLen ∧ ∀ i, i < xs.length → CellIs w M a i (.int .i64 (xs.getD i 0))) ∧ Shapes w M F v fr

def ElR (w : World) (M F : Nat → Prop) : SC → Nat → Value → Prop
  | .ints k xs, i, u => u = .int k (xs.getD i 0)
  | .rows fr xss, i, u => VwI w M F fr u (xss.getD i [])
  | .strs ss, i, u => u = .string (ss.getD i ⟨#[]⟩)

def Vw (w : World) (M F : Nat → Prop) (fr : Option TypeId) (v : Value) (c : SC) : Prop :=
  (∃ a cap, v = .slice a c.len cap ∧ c.len ≤ cap ∧ cap ≤ maxLen ∧ ∀ i, i < c.len → ∃ u, CellIs w M a i u ∧ ElR w M F c i u) ∧ Shapes w M F v fr

/-- Where the numbered blocks lie. -/
structure Gh where
  gh : Nat → Nat → Option Value
  bb : Nat → Option Nat
  gi : Nat → Nat → Prop
  one : ∀ b n v, gh b n = some v → ∃ a cap, v = .slice a n cap

mutual
def Rel (w : World) (M F : Nat → Prop) (g : Gh) (args : List Value) : AV → Value → Prop
  | .undef, _ => True
  | .skip, v => v = Go.undef
  | .int k n, v => v = .int k n
  | .bool b, v => v = .bool b
  | .tt, v => v = .bool true
  | .ff, v => v = .bool false
  | .str s, v => v = .string s
  | .nil, v => v = .slice none 0 0
  | .sl fr c, v => Vw w M F fr v c
  | .prm k c, v => Vw w M F none v c ∧ args[k]? = some v
  | .ref b n, v => g.gh b n = some v
  | .ptr b off, v => ∃ k, g.bb b = some k ∧ v = .pointer (some ⟨k, off, none⟩)
  | .rp b n i, v => 0 ≤ i ∧ ∃ k l cap, g.gh b n = some (.slice (some ⟨k, 0, none⟩) l cap) ∧ v = .pointer (some ⟨k, i.toNat, none⟩)
  | .ep x, v => ∃ ad u, v = .pointer (some ad) ∧ ad.spot = none ∧ ¬ M ad.block ∧ w.cell? ad = some u ∧ Rel w M F g args x u
  | .pv cells off, v => ∃ k us, v = .pointer (some ⟨k, off, none⟩) ∧ k < w.heap.size ∧ ¬ M k ∧ (∀ i u, us[i]? = some u → w.cell? ⟨k, i, none⟩ = some u) ∧ RelL w M F g args cells us
  | .agg xs, v => ∃ us, v = .agg us.toArray ∧ RelL w M F g args xs us
  | .tup xs, v => ∃ us, v = .tuple us.toArray ∧ RelL w M F g args xs us
  | .clo f caps, v => ∃ us, v = .func (.func f) #[] us.toArray ∧ RelL w M F g args caps us
def RelL (w : World) (M F : Nat → Prop) (g : Gh) (args : List Value) : List AV → List Value → Prop
  | [], us => us = []
  | x :: r, us => ∃ u us', us = u :: us' ∧ Rel w M F g args x u ∧ RelL w M F g args r us'
end

/-- A row whose elements are rows, all of them the call's own, in blocks of A, each in its own. -/
def GridR (w : World) (A : Nat → Prop) (e t : TypeId) (xss : List (List Int)) (v : Value) : Prop :=
  (xss.length = 0 ∧ v = .slice none 0 0) ∨
  ∃ (k cap : Nat) (cur : Array Value) (ks : List Nat), v = .slice (some ⟨k, 0, none⟩) xss.length cap ∧ w.heap[k]? = some (.cells cur e (0, 0)) ∧ cap ≤ cur.size ∧ xss.length ≤ cap ∧ cap ≤ maxLen ∧ A k ∧
    ks.length = xss.length ∧ ks.Nodup ∧ k ∉ ks ∧ ∀ i, i < xss.length → ∃ (capi : Nat) (curi : Array Value), cur[i]? = some (.slice (some ⟨ks.getD i 0, 0, none⟩) (xss.getD i []).length capi) ∧
      w.heap[ks.getD i 0]? = some (.cells curi t (0, 0)) ∧ capi ≤ curi.size ∧ (xss.getD i []).length ≤ capi ∧ capi ≤ maxLen ∧ A (ks.getD i 0) ∧
      ∀ j, j < (xss.getD i []).length → curi[j]? = some (.int .i64 ((xss.getD i []).getD j 0))

/-- Block k is the numbered block b's own. -/
def AliveX (g : Gh) (b : Nat) : Bx → Nat → Prop
  | .box _, k => g.bb b = some k
  | .row _ c, k => ∃ cap, g.gh b c.len = some (.slice (some ⟨k, 0, none⟩) c.len cap)
  | .grid _ _ _, k => g.gi b k
  | _, _ => False

def AliveB (g : Gh) (bx : Nat → Bx) (b k : Nat) : Prop := AliveX g b (bx b) k

def Mut (g : Gh) (bx : Nat → Bx) (k : Nat) : Prop := ∃ b, AliveB g bx b k

def BxR (w : World) (M F : Nat → Prop) (g : Gh) (args : List Value) (b : Nat) : Bx → Prop
  | .none => g.bb b = none ∧ ∀ n, g.gh b n = none
  | .box cells => (∀ n, g.gh b n = none) ∧ ∃ k cur e, g.bb b = some k ∧ w.heap[k]? = some (.cells cur e (0, 0)) ∧ RelL w M F g args cells cur.toList
  | .dbox cells => (∀ n, g.gh b n = none) ∧ ∃ k us, g.bb b = some k ∧ k < w.heap.size ∧ ¬ M k ∧ RelL w M F g args cells us ∧ ∀ i u, us[i]? = some u → w.cell? ⟨k, i, none⟩ = some u
  | .row e c => g.bb b = none ∧ (∀ n, c.len < n → g.gh b n = none) ∧
      ((c.len = 0 ∧ g.gh b 0 = some (.slice none 0 0)) ∨
       ∃ k cap cur, g.gh b c.len = some (.slice (some ⟨k, 0, none⟩) c.len cap) ∧ w.heap[k]? = some (.cells cur e (0, 0)) ∧ cap ≤ cur.size ∧ c.len ≤ cap ∧ cap ≤ maxLen ∧ F k ∧
         ∀ i, i < c.len → ∃ u, cur[i]? = some u ∧ ElR w M F c i u)
  | .drow e c => g.bb b = none ∧ (∀ n, c.len < n → g.gh b n = none) ∧ ∃ v, g.gh b c.len = some v ∧ Vw w M F (some e) v c
  | .grid e t xss => g.bb b = none ∧ (∀ n, xss.length < n → g.gh b n = none) ∧ (∀ k, g.gi b k → k < w.heap.size ∧ F k) ∧ ∃ v, g.gh b xss.length = some v ∧ GridR w (g.gi b) e t xss v
  | .gone => True

/-- What a contract says of the rest of the world. -/
structure Frame0 (w w' : World) (G : Nat → Prop) : Prop where
  os : w'.os = w.os
  tape : w'.tape = w.tape
  output : w'.output = w.output
  size : w.heap.size ≤ w'.heap.size
  frame : ∀ k, k < w.heap.size → ¬ G k → w'.heap[k]? = w.heap[k]?

def Gh.le (g g' : Gh) : Prop := (∀ b k, g.bb b = some k → g'.bb b = some k) ∧ ∀ b n v, g.gh b n = some v → g'.gh b n = some v

/-- The package-level variables are as the text lays them, and nobody writes them. -/
def Glo (w : World) (M : Nat → Prop) : Prop := LaidW w ∧ ∀ k, k < nGlob → k < w.heap.size ∧ ¬ M k

/-- What is fixed during one call. -/
structure Cx where
  N : Nat
  w0 : World
  G : Nat → Prop
  F : Nat → Prop
  args : List Value
  gi : Gh
  m : Nat
  mok : ∀ i, m ≤ i → gi.bb i = none ∧ ∀ n, gi.gh i n = none
  glo : Glo w0 G

/-- The state of the abstract machine speaks true of the real one. -/
structure Gam (C : Cx) (sl : Nat → AV) (bx : Nat → Bx) (g : Gh) (a : Act) (w : World) : Prop where
  fr : Frame0 C.w0 w C.G
  slots : a.tmps.size = C.N
  defers : a.defers = []
  fresh : ∀ k, C.w0.heap.size ≤ k → C.F k
  sls : ∀ t, Rel w (Mut g bx) C.F g C.args (sl t) (a.tmps.getD t undef)
  bxs : ∀ b, BxR w (Mut g bx) C.F g C.args b (bx b)
  excl : ∀ b b' k, AliveB g bx b k → AliveB g bx b' k → b = b'
  own : ∀ b k, AliveB g bx b k → C.G k ∨ C.w0.heap.size ≤ k
  gle : C.gi.le g

def getB : List Bx → Nat → Bx
  | [], _ => .none
  | x :: _, 0 => x
  | _ :: r, n + 1 => getB r n

theorem Glo.mono {w : World} {M M' : Nat → Prop} (h : Glo w M) (hM : ∀ k, M' k → M k) : Glo w M' := ⟨h.1, fun k hk => ⟨(h.2 k hk).1, fun h' => (h.2 k hk).2 (hM k h')⟩⟩
theorem Glo.frame {w w' : World} {G : Nat → Prop} (h : Glo w G) (hf : Frame0 w w' G) : Glo w' G :=
  ⟨LaidW_same (fun k hk => hf.frame k (h.2 k hk).1 (h.2 k hk).2) h.1, fun k hk => ⟨Nat.lt_of_lt_of_le (h.2 k hk).1 hf.size, (h.2 k hk).2⟩⟩
theorem Gam.glo {C : Cx} {sl : Nat → AV} {bx : Nat → Bx} {g : Gh} {a : Act} {w : World} (h : Gam C sl bx g a w) : Glo w (Mut g bx) := by
  have h1 := C.glo.frame h.fr
  refine ⟨h1.1, fun k hk => ⟨(h1.2 k hk).1, fun ⟨b, hb⟩ => ?_⟩⟩
  rcases h.own b k hb with h2 | h2
  · exact (C.glo.2 k hk).2 h2
  · have := (C.glo.2 k hk).1
    omega

/-- A function of the program, with a body. -/
def callable (P : Program) (f : FuncId) : Bool :=
  match P.funcs[f]? with
  | some fn => fn.name != "runtime.NumGoroutine" && fn.body.isSome
  | none => false

/-- What lies in the variables that are lent. -/
def heapCells (w : World) : Option Nat → List Value
  | some k => match w.heap[k]? with
    | some (.cells cur _ _) => cur.toList
    | _ => []
  | none => []
def cellsAt (w : World) (g : Gh) : Nat → List Bx → List Value
  | _, [] => []
  | b, .box _ :: r => heapCells w (g.bb b) ++ cellsAt w g (b + 1) r
  | b, _ :: r => cellsAt w g (b + 1) r

/-- A CONTRACT: called with 'args', the blocks 'giv' lent to it, function f returns r and leaves 'outs' (the lent ones first); of all else that was there nothing turns. -/
def ARuns (P : Program) (f : FuncId) (args : List AV) (giv : List Bx) (r : AV) (outs : List Bx) : Prop :=
  callable P f = true ∧ ∀ (w : World) (vals : List Value) (F0 : Nat → Prop) (g : Gh),
    (∀ k, F0 k → k < w.heap.size) →
    (∀ b, BxR w (Mut g (getB giv)) F0 g [] b (getB giv b)) → (∀ b b' k, AliveB g (getB giv) b k → AliveB g (getB giv) b' k → b = b') →
    RelL w (Mut g (getB giv)) F0 g [] args vals → Glo w (Mut g (getB giv)) →
    Calls P f vals.toArray w fun e w' => ∃ v g', e = .returned v ∧ Frame0 w w' (Mut g (getB giv)) ∧ Gh.le g g' ∧
      (∀ b, BxR w' (Mut g' (getB outs)) (fun k => F0 k ∨ w.heap.size ≤ k) g' (vals ++ cellsAt w g 0 giv) b (getB outs b)) ∧
      (∀ b b' k, AliveB g' (getB outs) b k → AliveB g' (getB outs) b' k → b = b') ∧
      (∀ b k, AliveB g' (getB outs) b k → Mut g (getB giv) k ∨ w.heap.size ≤ k) ∧
      Rel w' (Mut g' (getB outs)) (fun k => F0 k ∨ w.heap.size ≤ k) g' (vals ++ cellsAt w g 0 giv) r v

end AM
end Go.Proofs.YtbookhehpebcmaaGreatDoor
