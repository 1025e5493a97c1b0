import Derived.Test.YtdpimgmjoecieaaA30
import Derived.Test.YtdpimgmjoecieaaSh
namespace Go.Proofs.Ytdpimgmjoecieaa
open AM
set_option linter.unusedSimpArgs false
set_option linter.unusedVariables false
theorem sl3 : slTy Try.prog 3 = none := by kernel_rfl
theorem ty3 : tyOf Try.prog 3 = .one (.int .i64 0) := by kernel_rfl
theorem un3 : Try.prog.underlying 3 = some (.int .i64) := by kernel_rfl
theorem sl56 : slTy Try.prog 56 = none := by kernel_rfl
theorem ty56 : tyOf Try.prog 56 = .one (.int .u64 0) := by kernel_rfl
theorem un56 : Try.prog.underlying 56 = some (.int .u64) := by kernel_rfl
theorem sl85 : slTy Try.prog 85 = none := by kernel_rfl
theorem ty85 : tyOf Try.prog 85 = .one (.int .u64 0) := by kernel_rfl
theorem un85 : Try.prog.underlying 85 = some (.int .u64) := by kernel_rfl
theorem sl83 : slTy Try.prog 83 = none := by kernel_rfl
theorem ty83 : tyOf Try.prog 83 = .one (.int .u32 0) := by kernel_rfl
theorem un83 : Try.prog.underlying 83 = some (.int .u32) := by kernel_rfl
theorem sl5 : slTy Try.prog 5 = none := by kernel_rfl
theorem ty5 : tyOf Try.prog 5 = .one (.int .u8 0) := by kernel_rfl
theorem un5 : Try.prog.underlying 5 = some (.int .u8) := by kernel_rfl
theorem sl2 : slTy Try.prog 2 = none := by kernel_rfl
theorem ty2 : tyOf Try.prog 2 = .one (.int .i64 0) := by kernel_rfl
theorem un2 : Try.prog.underlying 2 = some (.int .i64) := by kernel_rfl
theorem sl21 : slTy Try.prog 21 = none := by kernel_rfl
theorem ty21 : tyOf Try.prog 21 = .one (.int .i32 0) := by kernel_rfl
theorem un21 : Try.prog.underlying 21 = some (.int .i32) := by kernel_rfl
theorem sl4 : slTy Try.prog 4 = none := by kernel_rfl
theorem ty4 : tyOf Try.prog 4 = .one .ff := by kernel_rfl
theorem un4 : Try.prog.underlying 4 = some .bool := by kernel_rfl
theorem sl9 : slTy Try.prog 9 = none := by kernel_rfl
theorem un9 : Try.prog.underlying 9 = some .string := by kernel_rfl
theorem sl22 : slTy Try.prog 22 = some (3, .ints .i64 []) := by kernel_rfl
theorem ty22 : tyOf Try.prog 22 = .one .nil := by kernel_rfl
theorem un22 : Try.prog.underlying 22 = some (.slice 3) := by kernel_rfl
theorem sl55 : slTy Try.prog 55 = none := by kernel_rfl
theorem sl62 : slTy Try.prog 62 = none := by kernel_rfl
theorem sl73 : slTy Try.prog 73 = none := by kernel_rfl
theorem sl77 : slTy Try.prog 77 = none := by kernel_rfl
theorem sl86 : slTy Try.prog 86 = none := by kernel_rfl
theorem ty73 : tyOf Try.prog 73 = .one .undef := by kernel_rfl
theorem ty39 : tyOf Try.prog 39 = .flat [.int .i64 0, .nil] := by kernel_rfl
theorem sl39 : slTy Try.prog 39 = none := by kernel_rfl
theorem ty33 : tyOf Try.prog 33 = .flat [.int .i64 0, .nil] := by kernel_rfl
theorem sl33 : slTy Try.prog 33 = none := by kernel_rfl
theorem ty79 : tyOf Try.prog 79 = .flat [.nil, .undef] := by kernel_rfl
theorem sl79 : slTy Try.prog 79 = none := by kernel_rfl
theorem ty67 : tyOf Try.prog 67 = .flat [.nil] := by kernel_rfl
theorem sl67 : slTy Try.prog 67 = none := by kernel_rfl
theorem inR64 {n : Int} : InR .i64 n = (-9223372036854775808 ≤ n ∧ n ≤ 9223372036854775807) := rfl
theorem inRu64 {n : Int} : InR .u64 n = (0 ≤ n ∧ n ≤ 18446744073709551615) := rfl
theorem inRu32 {n : Int} : InR .u32 n = (0 ≤ n ∧ n ≤ 4294967295) := rfl
theorem getD_get {xs : List Int} {i : Nat} (h : i < xs.length) : xs.getD i 0 = xs[i] := by rw [List.getD_eq_getElem?_getD, List.getElem?_eq_getElem h]; rfl
theorem take_succ_getD {xs : List Int} {i : Nat} (h : i < xs.length) : xs.take (i + 1) = xs.take i ++ [xs.getD i 0] := by
  rw [List.take_add_one, List.getElem?_eq_getElem h, getD_get h]; rfl
theorem copy_step {xs : List Int} {i : Nat} (h : i < xs.length) : (xs.take i ++ List.replicate (xs.length - i) 0).set i (xs.getD i 0) = xs.take (i + 1) ++ List.replicate (xs.length - (i + 1)) 0 := by
  have e : (xs.take i).length = i := by rw [List.length_take]; omega
  obtain ⟨m, hm⟩ : ∃ m, xs.length - i = m + 1 := ⟨xs.length - i - 1, by omega⟩
  rw [List.set_append_right _ _ (by omega), e, Nat.sub_self, hm, List.replicate_succ, List.set_cons_zero, take_succ_getD h, show xs.length - (i + 1) = m by omega, List.append_assoc]; rfl
/-- Two lists, element by element. -/
theorem eq_of_get {xs ys : List Int} (hl : xs.length = ys.length) (h : ∀ i, i < xs.length → xs.getD i 0 = ys.getD i 0) : xs = ys := by
  apply List.ext_getElem hl
  intro i h1 h2
  have := h i h1
  rwa [getD_get h1, getD_get h2] at this

theorem toNat_succ {i : Nat} : ((i : Int) + 1).toNat = i + 1 := by omega
/-- The longer of two, the first if they are as long. -/
def comb (b x : List Int) : List Int := if b.length < x.length then x else b
theorem comb_assoc {b c x : List Int} : comb (comb b c) x = comb b (comb c x) := by
  unfold comb; (repeat' split) <;> first | rfl | omega
theorem comb_len {b x : List Int} : (comb b x).length = max b.length x.length := by unfold comb; split <;> omega
/-- The program's search: the best list so far goes along. -/
def vis (fits : List Int → Int → Bool) : List Int → List Int → List Int → List Int
  | [], _, b => b
  | s :: r, l, b => if l.length + (r.length + 1) ≤ b.length then b else if fits l s = true then vis fits r l (vis fits r (l ++ [s]) (comb b (l ++ [s]))) else vis fits r l b
/-- The reference's search. -/
def grw (fits : List Int → Int → Bool) : List Int → List Int → List Int → List Int
  | [], _, b => b
  | s :: r, l, b => if l.length + (r.length + 1) ≤ b.length then b else if fits l s = true then grw fits r l (comb b (grw fits r (l ++ [s]) (l ++ [s]))) else grw fits r l b
theorem grw_len {fits : List Int → Int → Bool} : ∀ {r l b : List Int}, b.length ≤ (grw fits r l b).length ∧ (grw fits r l b).length ≤ max b.length (l.length + r.length)
  | [], l, b => by simp only [grw]; omega
  | s :: r, l, b => by
    have h1 := grw_len (fits := fits) (r := r) (l := l ++ [s]) (b := l ++ [s])
    simp only [List.length_append, List.length_singleton] at h1
    have h2 := grw_len (fits := fits) (r := r) (l := l) (b := comb b (grw fits r (l ++ [s]) (l ++ [s])))
    rw [comb_len] at h2
    have h3 := grw_len (fits := fits) (r := r) (l := l) (b := b)
    simp only [grw, List.length_cons]
    split
    · omega
    · split <;> omega
theorem vis_grw {fits : List Int → Int → Bool} : ∀ {r l b c : List Int}, vis fits r l (comb b c) = comb b (grw fits r l c)
  | [], l, b, c => rfl
  | s :: r, l, b, c => by
    have hlen := grw_len (fits := fits) (r := s :: r) (l := l) (b := c)
    simp only [List.length_cons] at hlen
    simp only [vis]
    split
    · rename_i hp
      rw [comb_len] at hp
      by_cases hc : b.length < c.length
      · have e1 : grw fits (s :: r) l c = c := by simp only [grw]; rw [if_pos (by omega)]
        rw [e1]
      · have e1 : comb b c = b := by rw [comb, if_neg hc]
        rw [e1, comb, if_neg (by omega)]
    · rename_i hp
      rw [comb_len] at hp
      simp only [grw]
      rw [if_neg (show ¬ l.length + (r.length + 1) ≤ c.length by omega)]
      split
      · rw [vis_grw, comb_assoc, vis_grw]
      · rw [vis_grw]
theorem vis_len {fits : List Int → Int → Bool} : ∀ {r l b : List Int}, b.length ≤ (vis fits r l b).length ∧ (vis fits r l b).length ≤ max b.length (l.length + r.length)
  | [], l, b => by simp only [vis]; omega
  | s :: r, l, b => by
    have h1 := vis_len (fits := fits) (r := r) (l := l ++ [s]) (b := comb b (l ++ [s]))
    simp only [comb_len, List.length_append, List.length_singleton] at h1
    have h2 := vis_len (fits := fits) (r := r) (l := l) (b := vis fits r (l ++ [s]) (comb b (l ++ [s])))
    have h3 := vis_len (fits := fits) (r := r) (l := l) (b := b)
    simp only [vis, List.length_cons]
    split
    · omega
    · split <;> omega
theorem vis_top {fits : List Int → Int → Bool} {r : List Int} : vis fits r [] (comb [] []) = grw fits r [] [] := by
  rw [vis_grw, comb]
  split
  · rfl
  · rename_i h
    have : (grw fits r [] []).length = 0 := by simp only [List.length_nil] at h; omega
    exact (List.length_eq_zero_iff.1 this).symm
theorem drop_cons {l : List Int} {i : Nat} (h : i < l.length) : l.drop i = l.getD i 0 :: l.drop (i + 1) := by
  rw [getD_get h]; exact List.drop_eq_getElem_cons h
/-- The best so far: the list that was handed in, or one of the search's own. -/
def bestV (k : Nat) (e : TypeId) (l : List Int) : Option (List Int) → AV
  | none => .prm k (.ints .i64 l)
  | some b => .sl (some e) (.ints .i64 b)
def bestL (l : List Int) : Option (List Int) → List Int
  | none => l
  | some b => b
theorem bestV_none {k : Nat} {e : TypeId} {l : List Int} : bestV k e l none = .prm k (.ints .i64 l) := rfl
theorem bestV_some {k : Nat} {e : TypeId} {l b : List Int} : bestV k e l (some b) = .sl (some e) (.ints .i64 b) := rfl
theorem bestL_none {l : List Int} : bestL l none = l := rfl
theorem bestL_some {l b : List Int} : bestL l (some b) = b := rfl
theorem grw_same {fits : List Int → Int → Bool} : ∀ {r l b : List Int}, grw fits r l b = b ∨ b.length < (grw fits r l b).length
  | [], l, b => .inl rfl
  | s :: r, l, b => by
    simp only [grw]
    split
    · exact .inl rfl
    · split
      · have h := grw_same (fits := fits) (r := r) (l := l) (b := comb b (grw fits r (l ++ [s]) (l ++ [s])))
        have h2 := grw_len (fits := fits) (r := r) (l := l) (b := comb b (grw fits r (l ++ [s]) (l ++ [s])))
        by_cases hc : b.length < (grw fits r (l ++ [s]) (l ++ [s])).length
        · right
          rw [comb_len] at h2
          omega
        · have e : comb b (grw fits r (l ++ [s]) (l ++ [s])) = b := by rw [comb, if_neg hc]
          rw [e] at h ⊢
          exact h
      · exact grw_same
theorem grw_eq {fits : List Int → Int → Bool} {r l b : List Int} (h : (grw fits r l b).length = b.length) : grw fits r l b = b := by
  rcases grw_same (fits := fits) (r := r) (l := l) (b := b) with h' | h'
  · exact h'
  · omega
theorem grw_next {fits : List Int → Int → Bool} {all l b : List Int} {i : Nat} (hi : i < all.length) (hp : ¬ l.length + all.length - i ≤ b.length) :
    grw fits (all.drop i) l b = if fits l (all.getD i 0) = true then grw fits (all.drop (i + 1)) l (comb b (grw fits (all.drop (i + 1)) (l ++ [all.getD i 0]) (l ++ [all.getD i 0]))) else grw fits (all.drop (i + 1)) l b := by
  rw [drop_cons hi, grw, if_neg (by simp only [List.length_drop]; omega)]
theorem grw_stop {fits : List Int → Int → Bool} {all l b : List Int} {i : Nat} (hp : ¬ i < all.length ∨ l.length + all.length - i ≤ b.length) : grw fits (all.drop i) l b = b := by
  by_cases hi : i < all.length
  · rw [drop_cons hi, grw, if_pos (by simp only [List.length_drop]; omega)]
  · rw [List.drop_of_length_le (by omega), grw]

/-- For all indices below n. -/
def allN (n : Nat) (p : Nat → Bool) : Bool := (List.range n).all p
theorem allN_iff {n : Nat} {p : Nat → Bool} : allN n p = true ↔ ∀ i, i < n → p i = true := by simp [allN, List.all_eq_true]
theorem allN_t {n : Nat} {p : Nat → Bool} (h : ∀ i, i < n → p i = true) : allN n p = true := allN_iff.2 h
theorem allN_f {n : Nat} {p : Nat → Bool} (i : Nat) (hi : i < n) (h : p i = false) : allN n p = false := by
  cases hh : allN n p with
  | false => rfl
  | true => rw [allN_iff.1 hh i hi] at h; cases h
theorem allN_congr {n : Nat} {p q : Nat → Bool} (h : ∀ i, i < n → p i = q i) : allN n p = allN n q := by
  rw [Bool.eq_iff_iff, allN_iff, allN_iff]
  exact ⟨fun hh i hi => by rw [← h i hi]; exact hh i hi, fun hh i hi => by rw [h i hi]; exact hh i hi⟩
theorem and_f1 {a b : Bool} (h : a = false) : (a && b) = false := by simp [h]
theorem and_f2 {a b : Bool} (h : b = false) : (a && b) = false := by simp [h]
theorem and_tt {a b : Bool} (h : a = true) (h' : b = true) : (a && b) = true := by simp [h, h']
theorem upto_succ {p : Nat → Bool} {i : Nat} (h : ∀ k, k < i → p k = true) (hi : p i = true) : ∀ k, k < i + 1 → p k = true := fun k hk => by
  by_cases e : k = i
  · rw [e]; exact hi
  · exact h k (by omega)
theorem allN_succ {n : Nat} {p : Nat → Bool} : allN (n + 1) p = (allN n p && p n) := by
  rw [Bool.eq_iff_iff, Bool.and_eq_true, allN_iff, allN_iff]
  constructor
  · intro h; exact ⟨fun i hi => h i (by omega), h n (by omega)⟩
  · intro h; exact upto_succ h.1 h.2

def inB (n l m : Int) : Bool := decide (l ≤ n) && decide (n ≤ m)
theorem inB_t {n l m : Int} : (inB n l m = true) = (l ≤ n ∧ n ≤ m) := by simp [inB]
theorem inB_f {n l m : Int} : (inB n l m = false) = ¬ (l ≤ n ∧ n ≤ m) := by rw [← inB_t]; simp

/-- All elements, as bits. -/
def fullI (n : Int) : Int := 2 ^ n.toNat - 1
theorem full_bd {n : Int} (h : 0 ≤ n ∧ n ≤ 10) : 0 ≤ fullI n ∧ fullI n ≤ 1023 := by
  have h1 : (2 : Nat) ^ n.toNat ≤ 2 ^ 10 := Nat.pow_le_pow_right (by omega) (by omega)
  have h2 : 0 < (2 : Nat) ^ n.toNat := Nat.two_pow_pos _
  have e : ((2 ^ n.toNat : Nat) : Int) = 2 ^ n.toNat := by simp
  unfold fullI
  omega
theorem full_bd6 {n : Int} (h : 0 ≤ n ∧ n ≤ 6) : 0 ≤ fullI n ∧ fullI n ≤ 63 := by
  have h1 : (2 : Nat) ^ n.toNat ≤ 2 ^ 6 := Nat.pow_le_pow_right (by omega) (by omega)
  have h2 : 0 < (2 : Nat) ^ n.toNat := Nat.two_pow_pos _
  have e : ((2 ^ n.toNat : Nat) : Int) = 2 ^ n.toNat := by simp
  unfold fullI
  omega
def inS (n s : Int) : Bool := inB s 0 (fullI n)
/-- Sets of n elements. -/
def setsOk (n : Int) (xs : List Int) : Bool := inB n 0 6 && allN xs.length fun i => inS n (xs.getD i 0)
theorem setsOk_iff {n : Int} {xs : List Int} : setsOk n xs = true ↔ inB n 0 6 = true ∧ ∀ i, i < xs.length → inS n (xs.getD i 0) = true := by
  simp only [setsOk, Bool.and_eq_true, allN_iff]
theorem setsOk_bd {n : Int} {xs : List Int} (h : setsOk n xs = true) : (0 ≤ n ∧ n ≤ 6) ∧ ∀ i, i < xs.length → 0 ≤ xs.getD i 0 ∧ xs.getD i 0 ≤ 63 ∧ xs.getD i 0 ≤ fullI n := by
  rw [setsOk_iff, inB_t] at h
  have hf := full_bd6 h.1
  refine ⟨h.1, fun i hi => ?_⟩
  have := h.2 i hi
  rw [inS, inB_t] at this
  omega
def ascAt (xs : List Int) (i : Nat) : Bool := i == 0 || decide (xs.getD (i - 1) 0 < xs.getD i 0)
/-- A family: sets that ascend. -/
def famB (n : Int) (xs : List Int) : Bool := setsOk n xs && allN xs.length (ascAt xs)
theorem famB_iff {n : Int} {xs : List Int} : famB n xs = true ↔ setsOk n xs = true ∧ ∀ i, i < xs.length → ascAt xs i = true := by
  simp only [famB, Bool.and_eq_true, allN_iff]
theorem famB_f {n : Int} {xs : List Int} (h : ¬ (setsOk n xs = true ∧ ∀ i, i < xs.length → ascAt xs i = true)) : famB n xs = false := by
  rw [← famB_iff] at h; simpa using h
theorem famB_bd {n : Int} {xs : List Int} (h : famB n xs = true) : (0 ≤ n ∧ n ≤ 6) ∧ ∀ i, i < xs.length → 0 ≤ xs.getD i 0 ∧ xs.getD i 0 ≤ 63 ∧ xs.getD i 0 ≤ fullI n := setsOk_bd (famB_iff.1 h).1
theorem ascAt_iff {xs : List Int} {i : Nat} : ascAt xs i = true ↔ (i = 0 ∨ xs.getD (i - 1) 0 < xs.getD i 0) := by
  unfold ascAt
  generalize xs.getD (i - 1) 0 = a
  generalize xs.getD i 0 = b
  simp

/-- Whether s is put to sets whose elements are u. -/
def fitP (u s : Int) : Bool := !decide (s = 0) && decide (band .i64 s u = 0)
def pvis : List Int → Int → List Int → List Int → List Int
  | [], _, _, b => b
  | s :: r, u, l, b => if fitP u s = true then pvis r u l (pvis r (bor .i64 u s) (l ++ [s]) (comb b (l ++ [s]))) else pvis r u l b
def pgrw : List Int → Int → List Int → List Int → List Int
  | [], _, _, b => b
  | s :: r, u, l, b => if fitP u s = true then pgrw r u l (comb b (pgrw r (bor .i64 u s) (l ++ [s]) (l ++ [s]))) else pgrw r u l b
theorem pvis_grw : ∀ {r : List Int} {u : Int} {l b c : List Int}, pvis r u l (comb b c) = comb b (pgrw r u l c)
  | [], u, l, b, c => rfl
  | s :: r, u, l, b, c => by
    simp only [pvis, pgrw]
    split
    · rw [pvis_grw, comb_assoc, pvis_grw]
    · rw [pvis_grw]
theorem pgrw_len : ∀ {r : List Int} {u : Int} {l b : List Int}, b.length ≤ (pgrw r u l b).length ∧ (pgrw r u l b).length ≤ max b.length (l.length + r.length)
  | [], u, l, b => by simp only [pgrw]; omega
  | s :: r, u, l, b => by
    have h1 := pgrw_len (r := r) (u := bor .i64 u s) (l := l ++ [s]) (b := l ++ [s])
    simp only [List.length_append, List.length_singleton] at h1
    have h2 := pgrw_len (r := r) (u := u) (l := l) (b := comb b (pgrw r (bor .i64 u s) (l ++ [s]) (l ++ [s])))
    rw [comb_len] at h2
    have h3 := pgrw_len (r := r) (u := u) (l := l) (b := b)
    simp only [pgrw, List.length_cons]
    split <;> omega
theorem pvis_len : ∀ {r : List Int} {u : Int} {l b : List Int}, b.length ≤ (pvis r u l b).length ∧ (pvis r u l b).length ≤ max b.length (l.length + r.length)
  | [], u, l, b => by simp only [pvis]; omega
  | s :: r, u, l, b => by
    have h1 := pvis_len (r := r) (u := bor .i64 u s) (l := l ++ [s]) (b := comb b (l ++ [s]))
    simp only [comb_len, List.length_append, List.length_singleton] at h1
    have h2 := pvis_len (r := r) (u := u) (l := l) (b := pvis r (bor .i64 u s) (l ++ [s]) (comb b (l ++ [s])))
    have h3 := pvis_len (r := r) (u := u) (l := l) (b := b)
    simp only [pvis, List.length_cons]
    split <;> omega
theorem pgrw_same : ∀ {r : List Int} {u : Int} {l b : List Int}, pgrw r u l b = b ∨ b.length < (pgrw r u l b).length
  | [], u, l, b => .inl rfl
  | s :: r, u, l, b => by
    simp only [pgrw]
    split
    · have h := pgrw_same (r := r) (u := u) (l := l) (b := comb b (pgrw r (bor .i64 u s) (l ++ [s]) (l ++ [s])))
      have h2 := pgrw_len (r := r) (u := u) (l := l) (b := comb b (pgrw r (bor .i64 u s) (l ++ [s]) (l ++ [s])))
      by_cases hc : b.length < (pgrw r (bor .i64 u s) (l ++ [s]) (l ++ [s])).length
      · right
        rw [comb_len] at h2
        omega
      · have e : comb b (pgrw r (bor .i64 u s) (l ++ [s]) (l ++ [s])) = b := by rw [comb, if_neg hc]
        rw [e] at h ⊢
        exact h
    · exact pgrw_same
theorem pgrw_eq {r : List Int} {u : Int} {l b : List Int} (h : (pgrw r u l b).length = b.length) : pgrw r u l b = b := by
  rcases pgrw_same (r := r) (u := u) (l := l) (b := b) with h' | h'
  · exact h'
  · omega
theorem pvis_top {r : List Int} : pvis r 0 [] (comb [] []) = pgrw r 0 [] [] := by
  rw [pvis_grw, comb]
  split
  · rfl
  · rename_i h
    have : (pgrw r 0 [] []).length = 0 := by simp only [List.length_nil] at h; omega
    exact (List.length_eq_zero_iff.1 this).symm
theorem pgrw_next {all l b : List Int} {u : Int} {i : Nat} (hi : i < all.length) :
    pgrw (all.drop i) u l b = if fitP u (all.getD i 0) = true then pgrw (all.drop (i + 1)) u l (comb b (pgrw (all.drop (i + 1)) (bor .i64 u (all.getD i 0)) (l ++ [all.getD i 0]) (l ++ [all.getD i 0]))) else pgrw (all.drop (i + 1)) u l b := by
  rw [drop_cons hi, pgrw]
theorem pgrw_stop {all l b : List Int} {u : Int} {i : Nat} (hp : ¬ i < all.length) : pgrw (all.drop i) u l b = b := by
  rw [List.drop_of_length_le (by omega), pgrw]
def pkL (n : Int) (xs : List Int) : List Int := if famB n xs = true then pgrw xs 0 [] [] else []
theorem pkL_len {n : Int} {xs : List Int} : (pkL n xs).length ≤ xs.length := by
  unfold pkL; split
  · have h3 := pgrw_len (r := xs) (u := 0) (l := []) (b := [])
    simp only [List.length_nil] at h3
    omega
  · simp

/-- n numbers from k on. -/
def iotaI (k : Int) (n : Nat) : List Int := (List.range n).map fun (i : Nat) => k + (i : Int)
theorem iotaI_len {k : Int} {n : Nat} : (iotaI k n).length = n := by simp [iotaI]
theorem iotaI_get {k : Int} {n i : Nat} (h : i < n) : (iotaI k n).getD i 0 = k + i := by
  rw [List.getD_eq_getElem?_getD, iotaI, List.getElem?_map, List.getElem?_range h]; rfl
theorem iotaI_succ {k : Int} {n : Nat} : iotaI k (n + 1) = iotaI k n ++ [k + n] := by
  simp [iotaI, List.range_succ]
theorem mark_step {xs : List Int} {k : Int} {i : Nat} (h : i < xs.length) : (iotaI k i ++ xs.drop i).set i (k + i) = iotaI k (i + 1) ++ xs.drop (i + 1) := by
  rw [List.set_append_right _ _ (by rw [iotaI_len]; exact Nat.le_refl _), iotaI_len, Nat.sub_self, List.drop_eq_getElem_cons h, List.set_cons_zero, iotaI_succ, List.append_assoc]; rfl
/-- What is read back: the next number, if they are all there. -/
def heldI (xs : List Int) (k : Int) : Int := if xs = iotaI k xs.length then k + xs.length else -1
theorem heldI_f {xs : List Int} {k : Int} {i : Nat} (hi : i < xs.length) (h : ¬ xs.getD i 0 = k + i) : heldI xs k = -1 := by
  rw [heldI, if_neg]
  intro e
  have := iotaI_get (k := k) (n := xs.length) hi
  rw [← e] at this
  exact h this
theorem heldI_t {xs : List Int} {k : Int} (h : ∀ i, i < xs.length → xs.getD i 0 = k + i) : heldI xs k = k + xs.length := by
  rw [heldI, if_pos]
  exact eq_of_get iotaI_len.symm fun i hi => by rw [h i hi, iotaI_get hi]
theorem heldI_iota {k : Int} {n : Nat} : heldI (iotaI k n) k = k + n := by rw [heldI, iotaI_len, if_pos rfl]

theorem is_laws_eqIntS : FnIs Try.prog 18 26 [.tmp 4] (Try.f18.body.getD .skip) := ⟨⟨Try.f18, by kernel_rfl, by kernel_rfl, by kernel_rfl, by kernel_rfl⟩, by kernel_rfl, by kernel_rfl⟩
def G_laws_eqIntS : Gm := Gm.none
theorem G_laws_eqIntS_ok : G_laws_eqIntS.ok Try.prog := Gm.none_ok
set_option maxHeartbeats 1000000 in
set_option maxRecDepth 100000 in
theorem runs_laws_eqIntS (xs ys : List Int) : ARuns Try.prog 18 [.sl none (.ints .i64 xs), .sl none (.ints .i64 ys)] [] (.bool (decide (xs = ys))) [] := by
  refine ARuns_bc G_laws_eqIntS_ok is_laws_eqIntS (by simp) fun hl hlB => ?_
  simp only [kcode_at, kreg_at, bc_skip, bc_seq, bc_cond, bc_block, bc_exit, bc_ret, bc_region, lkX_cons, acond_tmp, aCase_t, aCase_f, aCase_b, afin_nil, cvE_some, resL, resV, resC, cv, cvL, pack, entryE, inPrm, Option.getD_some, acall_clo, add_sp, add_lend, kcall_nil, selOf, selC, selA, inArgs, inA, inL, okA, okL, okBx, okC, outA, outL, outU, outB, deep, deepL, boxIds, AV.bid, List.map_nil, List.map_cons, List.all_nil, List.all_cons, BEq.rfl, Bool.and_true, Bool.true_and, List.append_nil, aops_nil, aops_plain, aops_guard, kont_at, yes_at, no_at, aop_move, aop_assign, aop_pick, aop_alloc, aop_box, aop_build, aop_buildSlice, aop_load, aop_store, aop_nilCheck, aop_binOp, aop_unOp, aop_convert, aop_fieldAddr, aop_indexAddr, aop_slice, aop_extract, aop_makeSlice, aop_len, aop_max, aMax_int, slTy2, SC0, aop_append, aop_call, evalE, getE, putE, getB, setB, St.put, setsB, nth, AV.ofV, AV.blk, AV.bid, AV.one, SC.len, SC.get, List.length_nil, List.length_cons, Nat.reduceEqDiff, Nat.reduceAdd, ↓reduceIte, true_and, and_true, Bool.true_eq_false, Bool.false_eq_true, false_imp_iff, true_imp_iff, decide_eq_true_eq, Bool.not_eq_true', Bool.not_eq_false', decide_eq_false_iff_not, Option.isSome, List.nil_append, List.cons_append, aGuardO_some, aGuard_tt, aGuard_tf, aGuard_ft, aGuard_ff, aGuard_tb, aGuard_fb, aGuard_ts, aGuard_fs, aPick_b, aPick_t, aPick_f, aAlloc_one, aAlloc_flat, aBox_some, aBuild_flat, aInt_add, aBin_add, aInt_sub, aBin_sub, aInt_mul, aBin_mul, aInt_quo, aBin_quo, aInt_rem, aBin_rem, aInt_and, aBin_and, aInt_or, aBin_or, aInt_xor, aBin_xor, aInt_andNot, aBin_andNot, aInt_eql, aBin_eql, aInt_neq, aBin_neq, aInt_lss, aBin_lss, aInt_leq, aBin_leq, aInt_gtr, aBin_gtr, aInt_geq, aBin_geq, aBin_shl, aBin_shr, aShift_shl, aShift_shr, aBin_be1, aBin_bn1, aBin_be2, aBin_bn2, aBin_be3, aBin_bn3, aBin_be4, aBin_bn4, aBin_be5, aBin_bn5, aBin_be6, aBin_bn6, aBin_be7, aBin_bn7, aBin_be8, aBin_bn8, aBin_be9, aBin_bn9, aUn_b, aUn_t, aUn_f, aUn_i, aNil_ptr, aNil_pv, aConv_int, aField_ptr, aField_pv, aIdx_sl, aIdx_prm, aIdx_row, aIdx_drow, aMake_i, aMake_s, aExtr_tup, aLen_ref, aLen_nil, aLen_sl, aLen_prm, aLen_str, aBuildL_some, aBuildS_some, aLoad_1b, aLoad_1d, aLoad_fb, aLoad_fd, aLoad_1p, aLoad_fp, aLoad_ep, aLoad_rr, aLoad_rd, aStore_1, aStore_f, aStore_r, aApp_some, aAppend_nil, aAppend_ref, aSlice_h, aSlice_l, aSlice_lh, aop_slice3, aSlice3_r, aop_field, aFld_agg, aBinW_f, aBinW_t, aWrap_mul, aWrap_add, isW_tmp, isW_mulc, isW_addc, isW_sub, isW_quo, isW_rem, isW_and, isW_or, isW_xor, isW_andNot, isW_shl, isW_shr, isW_eql, isW_neq, isW_lss, isW_leq, isW_gtr, isW_geq, Int.reduceLT, aBinW_dF, aBinW_dT, bc_draw, kregD_at, aopsD_nil, aopsD_plain, aopsD_guard, kontD_at, contD_at, yesD_at, noD_at, splD_bool, splD_undef, splD_skip, splD_int, splD_tt, splD_ff, splD_str, splD_nil, splD_sl, splD_prm, splD_ref, splD_ptr, splD_rp, splD_ep, splD_pv, splD_agg, splD_tup, splD_clo, gD_tt, gD_tf, gD_ft, gD_ff, gD_ts, gD_fs, slotO_some, addTr_nil, addTr_cons, memQ_nil, memQ_cons, clash_nil, clash_cons, regC_none, regC_nil, regC_cons, regR_nil, regR_cons, Int.toNat_zero, Int.toNat_one, rng0, rng1, rng2, rng3, rng4, SC.take, SC.drop, mp_nil, acond_ct, acond_cf, mp_one0, mp_one1, mp_one2, mp_one3, kcall_one, liveB_row, liveB_box, idx, cont, still, dies, lend, lendA, lendDies, snocs, SC.snoc, SC.app, meet, AV.cells, fillA, List.getD_cons_zero, List.getD_cons_succ, List.set_cons_zero, List.set_cons_succ, List.length_singleton, Nat.le_refl, Nat.lt_irrefl, Nat.reduceLT, Nat.reduceLeDiff, Option.map_some, Option.map_none, List.flatMap_nil, List.flatMap_cons, Nat.zero_add, BEq.rfl, kcall_two, mp_two0, mp_two1, mp_two2, mp_two3, mp_two4, aop_makeFunc, plainA, Bool.true_and, sl3, ty3, un3, sl56, ty56, un56, sl85, ty85, un85, sl83, ty83, un83, sl5, ty5, un5, sl2, ty2, un2, sl21, ty21, un21, sl4, ty4, un4, sl9, un9, sl22, ty22, un22, sl55, sl62, sl73, sl77, sl86, ty73, ty39, sl39, ty33, sl33, ty79, sl79, ty67, sl67, inR64, inRu64, inRu32, Try.f18]
  simp only [lensA, lenA, lenSC] at hl
  refine ⟨fun h => ?_, fun h => ?_⟩
  · congr 1; symm; simp; intro e; rw [e] at h; exact h rfl
  replace h : xs.length = ys.length := by omega
  refine bc_loop (fun i : Nat => i ≤ xs.length ∧ ∀ k, k < i → xs.getD k 0 = ys.getD k 0)
    (fun i => ⟨[(0, .prm 0 (.ints .i64 xs)), (1, .prm 1 (.ints .i64 ys)), (5, .int .i64 i)], []⟩) (fun i => xs.length - i)
    [0, 1, 5] [] 0 rfl rfl (by simp) fun i ⟨h1, h2⟩ => ?_
  simp only [kcode_at, kreg_at, bc_skip, bc_seq, bc_cond, bc_block, bc_exit, bc_ret, bc_region, lkX_cons, acond_tmp, aCase_t, aCase_f, aCase_b, afin_nil, cvE_some, resL, resV, resC, cv, cvL, pack, entryE, inPrm, Option.getD_some, acall_clo, add_sp, add_lend, kcall_nil, selOf, selC, selA, inArgs, inA, inL, okA, okL, okBx, okC, outA, outL, outU, outB, deep, deepL, boxIds, AV.bid, List.map_nil, List.map_cons, List.all_nil, List.all_cons, BEq.rfl, Bool.and_true, Bool.true_and, List.append_nil, aops_nil, aops_plain, aops_guard, kont_at, yes_at, no_at, aop_move, aop_assign, aop_pick, aop_alloc, aop_box, aop_build, aop_buildSlice, aop_load, aop_store, aop_nilCheck, aop_binOp, aop_unOp, aop_convert, aop_fieldAddr, aop_indexAddr, aop_slice, aop_extract, aop_makeSlice, aop_len, aop_max, aMax_int, slTy2, SC0, aop_append, aop_call, evalE, getE, putE, getB, setB, St.put, setsB, nth, AV.ofV, AV.blk, AV.bid, AV.one, SC.len, SC.get, List.length_nil, List.length_cons, Nat.reduceEqDiff, Nat.reduceAdd, ↓reduceIte, true_and, and_true, Bool.true_eq_false, Bool.false_eq_true, false_imp_iff, true_imp_iff, decide_eq_true_eq, Bool.not_eq_true', Bool.not_eq_false', decide_eq_false_iff_not, Option.isSome, List.nil_append, List.cons_append, aGuardO_some, aGuard_tt, aGuard_tf, aGuard_ft, aGuard_ff, aGuard_tb, aGuard_fb, aGuard_ts, aGuard_fs, aPick_b, aPick_t, aPick_f, aAlloc_one, aAlloc_flat, aBox_some, aBuild_flat, aInt_add, aBin_add, aInt_sub, aBin_sub, aInt_mul, aBin_mul, aInt_quo, aBin_quo, aInt_rem, aBin_rem, aInt_and, aBin_and, aInt_or, aBin_or, aInt_xor, aBin_xor, aInt_andNot, aBin_andNot, aInt_eql, aBin_eql, aInt_neq, aBin_neq, aInt_lss, aBin_lss, aInt_leq, aBin_leq, aInt_gtr, aBin_gtr, aInt_geq, aBin_geq, aBin_shl, aBin_shr, aShift_shl, aShift_shr, aBin_be1, aBin_bn1, aBin_be2, aBin_bn2, aBin_be3, aBin_bn3, aBin_be4, aBin_bn4, aBin_be5, aBin_bn5, aBin_be6, aBin_bn6, aBin_be7, aBin_bn7, aBin_be8, aBin_bn8, aBin_be9, aBin_bn9, aUn_b, aUn_t, aUn_f, aUn_i, aNil_ptr, aNil_pv, aConv_int, aField_ptr, aField_pv, aIdx_sl, aIdx_prm, aIdx_row, aIdx_drow, aMake_i, aMake_s, aExtr_tup, aLen_ref, aLen_nil, aLen_sl, aLen_prm, aLen_str, aBuildL_some, aBuildS_some, aLoad_1b, aLoad_1d, aLoad_fb, aLoad_fd, aLoad_1p, aLoad_fp, aLoad_ep, aLoad_rr, aLoad_rd, aStore_1, aStore_f, aStore_r, aApp_some, aAppend_nil, aAppend_ref, aSlice_h, aSlice_l, aSlice_lh, aop_slice3, aSlice3_r, aop_field, aFld_agg, aBinW_f, aBinW_t, aWrap_mul, aWrap_add, isW_tmp, isW_mulc, isW_addc, isW_sub, isW_quo, isW_rem, isW_and, isW_or, isW_xor, isW_andNot, isW_shl, isW_shr, isW_eql, isW_neq, isW_lss, isW_leq, isW_gtr, isW_geq, Int.reduceLT, aBinW_dF, aBinW_dT, bc_draw, kregD_at, aopsD_nil, aopsD_plain, aopsD_guard, kontD_at, contD_at, yesD_at, noD_at, splD_bool, splD_undef, splD_skip, splD_int, splD_tt, splD_ff, splD_str, splD_nil, splD_sl, splD_prm, splD_ref, splD_ptr, splD_rp, splD_ep, splD_pv, splD_agg, splD_tup, splD_clo, gD_tt, gD_tf, gD_ft, gD_ff, gD_ts, gD_fs, slotO_some, addTr_nil, addTr_cons, memQ_nil, memQ_cons, clash_nil, clash_cons, regC_none, regC_nil, regC_cons, regR_nil, regR_cons, Int.toNat_zero, Int.toNat_one, rng0, rng1, rng2, rng3, rng4, SC.take, SC.drop, mp_nil, acond_ct, acond_cf, mp_one0, mp_one1, mp_one2, mp_one3, kcall_one, liveB_row, liveB_box, idx, cont, still, dies, lend, lendA, lendDies, snocs, SC.snoc, SC.app, meet, AV.cells, fillA, List.getD_cons_zero, List.getD_cons_succ, List.set_cons_zero, List.set_cons_succ, List.length_singleton, Nat.le_refl, Nat.lt_irrefl, Nat.reduceLT, Nat.reduceLeDiff, Option.map_some, Option.map_none, List.flatMap_nil, List.flatMap_cons, Nat.zero_add, BEq.rfl, kcall_two, mp_two0, mp_two1, mp_two2, mp_two3, mp_two4, aop_makeFunc, plainA, Bool.true_and, sl3, ty3, un3, sl56, ty56, un56, sl85, ty85, un85, sl83, ty83, un83, sl5, ty5, un5, sl2, ty2, un2, sl21, ty21, un21, sl4, ty4, un4, sl9, un9, sl22, ty22, un22, sl55, sl62, sl73, sl77, sl86, ty73, ty39, sl39, ty33, sl33, ty79, sl79, ty67, sl67, inR64, inRu64, inRu32, Int.toNat_natCast]
  refine ⟨fun hi => ⟨by omega, by omega, fun hne => ?_, fun he => ⟨by omega, ?_⟩⟩, fun hi => ?_⟩
  · congr 1; symm; simp; intro e; rw [e] at hne; exact hne rfl
  · refine klp_of (i + 1) rfl ⟨by omega, fun k hk => ?_⟩ (by omega)
    by_cases e : k = i
    · rw [e]; exact he
    · exact h2 k (by omega)
  · congr 1; symm; simp
    exact eq_of_get h fun k hk => h2 k (by omega)
def lend_laws_eqIntS : List Nat := []
def sp_laws_eqIntS : List AV → List Bx → (AV → List Bx → Prop) → Prop
  | [.sl none (.ints .i64 xs), .sl none (.ints .i64 ys)], [], K => K (.bool (decide (xs = ys))) []
  | _, _, _ => False
theorem at_laws_eqIntS {xs ys : List Int} {K : AV → List Bx → Prop} : sp_laws_eqIntS [.sl none (.ints .i64 xs), .sl none (.ints .i64 ys)] [] K = (K (.bool (decide (xs = ys))) []) := id rfl
theorem ok_laws_eqIntS : ∀ args giv K, sp_laws_eqIntS args giv K → ∃ r outs, ARuns Try.prog 18 args giv r outs ∧ K r outs := by
  intro args giv K hk
  unfold sp_laws_eqIntS at hk
  split at hk
  · exact ⟨_, _, runs_laws_eqIntS _ _ , hk⟩
  · exact hk.elim
theorem is_laws_markIntS : FnIs Try.prog 23 19 [.tmp 4] (Try.f23.body.getD .skip) := ⟨⟨Try.f23, by kernel_rfl, by kernel_rfl, by kernel_rfl, by kernel_rfl⟩, by kernel_rfl, by kernel_rfl⟩
def G_laws_markIntS : Gm := Gm.none
theorem G_laws_markIntS_ok : G_laws_markIntS.ok Try.prog := Gm.none_ok
set_option maxHeartbeats 1000000 in
set_option maxRecDepth 100000 in
theorem runs_laws_markIntS (k : Int) (e : TypeId) (n : Nat) (xs : List Int) (hp1 : n = xs.length) (hp2 : 0 ≤ k ∧ k + xs.length ≤ 9223372036854775807) : ARuns Try.prog 23 [.ref 0 n, .int .i64 k] [.row e (.ints .i64 xs)] (.int .i64 (k + xs.length)) [.row e (.ints .i64 (iotaI k xs.length))] := by
  refine ARuns_bc G_laws_markIntS_ok is_laws_markIntS (by simp) fun hl hlB => ?_
  simp only [kcode_at, kreg_at, bc_skip, bc_seq, bc_cond, bc_block, bc_exit, bc_ret, bc_region, lkX_cons, acond_tmp, aCase_t, aCase_f, aCase_b, afin_nil, cvE_some, resL, resV, resC, cv, cvL, pack, entryE, inPrm, Option.getD_some, acall_clo, add_sp, add_lend, kcall_nil, selOf, selC, selA, inArgs, inA, inL, okA, okL, okBx, okC, outA, outL, outU, outB, deep, deepL, boxIds, AV.bid, List.map_nil, List.map_cons, List.all_nil, List.all_cons, BEq.rfl, Bool.and_true, Bool.true_and, List.append_nil, aops_nil, aops_plain, aops_guard, kont_at, yes_at, no_at, aop_move, aop_assign, aop_pick, aop_alloc, aop_box, aop_build, aop_buildSlice, aop_load, aop_store, aop_nilCheck, aop_binOp, aop_unOp, aop_convert, aop_fieldAddr, aop_indexAddr, aop_slice, aop_extract, aop_makeSlice, aop_len, aop_max, aMax_int, slTy2, SC0, aop_append, aop_call, evalE, getE, putE, getB, setB, St.put, setsB, nth, AV.ofV, AV.blk, AV.bid, AV.one, SC.len, SC.get, List.length_nil, List.length_cons, Nat.reduceEqDiff, Nat.reduceAdd, ↓reduceIte, true_and, and_true, Bool.true_eq_false, Bool.false_eq_true, false_imp_iff, true_imp_iff, decide_eq_true_eq, Bool.not_eq_true', Bool.not_eq_false', decide_eq_false_iff_not, Option.isSome, List.nil_append, List.cons_append, aGuardO_some, aGuard_tt, aGuard_tf, aGuard_ft, aGuard_ff, aGuard_tb, aGuard_fb, aGuard_ts, aGuard_fs, aPick_b, aPick_t, aPick_f, aAlloc_one, aAlloc_flat, aBox_some, aBuild_flat, aInt_add, aBin_add, aInt_sub, aBin_sub, aInt_mul, aBin_mul, aInt_quo, aBin_quo, aInt_rem, aBin_rem, aInt_and, aBin_and, aInt_or, aBin_or, aInt_xor, aBin_xor, aInt_andNot, aBin_andNot, aInt_eql, aBin_eql, aInt_neq, aBin_neq, aInt_lss, aBin_lss, aInt_leq, aBin_leq, aInt_gtr, aBin_gtr, aInt_geq, aBin_geq, aBin_shl, aBin_shr, aShift_shl, aShift_shr, aBin_be1, aBin_bn1, aBin_be2, aBin_bn2, aBin_be3, aBin_bn3, aBin_be4, aBin_bn4, aBin_be5, aBin_bn5, aBin_be6, aBin_bn6, aBin_be7, aBin_bn7, aBin_be8, aBin_bn8, aBin_be9, aBin_bn9, aUn_b, aUn_t, aUn_f, aUn_i, aNil_ptr, aNil_pv, aConv_int, aField_ptr, aField_pv, aIdx_sl, aIdx_prm, aIdx_row, aIdx_drow, aMake_i, aMake_s, aExtr_tup, aLen_ref, aLen_nil, aLen_sl, aLen_prm, aLen_str, aBuildL_some, aBuildS_some, aLoad_1b, aLoad_1d, aLoad_fb, aLoad_fd, aLoad_1p, aLoad_fp, aLoad_ep, aLoad_rr, aLoad_rd, aStore_1, aStore_f, aStore_r, aApp_some, aAppend_nil, aAppend_ref, aSlice_h, aSlice_l, aSlice_lh, aop_slice3, aSlice3_r, aop_field, aFld_agg, aBinW_f, aBinW_t, aWrap_mul, aWrap_add, isW_tmp, isW_mulc, isW_addc, isW_sub, isW_quo, isW_rem, isW_and, isW_or, isW_xor, isW_andNot, isW_shl, isW_shr, isW_eql, isW_neq, isW_lss, isW_leq, isW_gtr, isW_geq, Int.reduceLT, aBinW_dF, aBinW_dT, bc_draw, kregD_at, aopsD_nil, aopsD_plain, aopsD_guard, kontD_at, contD_at, yesD_at, noD_at, splD_bool, splD_undef, splD_skip, splD_int, splD_tt, splD_ff, splD_str, splD_nil, splD_sl, splD_prm, splD_ref, splD_ptr, splD_rp, splD_ep, splD_pv, splD_agg, splD_tup, splD_clo, gD_tt, gD_tf, gD_ft, gD_ff, gD_ts, gD_fs, slotO_some, addTr_nil, addTr_cons, memQ_nil, memQ_cons, clash_nil, clash_cons, regC_none, regC_nil, regC_cons, regR_nil, regR_cons, Int.toNat_zero, Int.toNat_one, rng0, rng1, rng2, rng3, rng4, SC.take, SC.drop, mp_nil, acond_ct, acond_cf, mp_one0, mp_one1, mp_one2, mp_one3, kcall_one, liveB_row, liveB_box, idx, cont, still, dies, lend, lendA, lendDies, snocs, SC.snoc, SC.app, meet, AV.cells, fillA, List.getD_cons_zero, List.getD_cons_succ, List.set_cons_zero, List.set_cons_succ, List.length_singleton, Nat.le_refl, Nat.lt_irrefl, Nat.reduceLT, Nat.reduceLeDiff, Option.map_some, Option.map_none, List.flatMap_nil, List.flatMap_cons, Nat.zero_add, BEq.rfl, kcall_two, mp_two0, mp_two1, mp_two2, mp_two3, mp_two4, aop_makeFunc, plainA, Bool.true_and, sl3, ty3, un3, sl56, ty56, un56, sl85, ty85, un85, sl83, ty83, un83, sl5, ty5, un5, sl2, ty2, un2, sl21, ty21, un21, sl4, ty4, un4, sl9, un9, sl22, ty22, un22, sl55, sl62, sl73, sl77, sl86, ty73, ty39, sl39, ty33, sl33, ty79, sl79, ty67, sl67, inR64, inRu64, inRu32, Try.f23]
  subst hp1
  refine bc_loop (fun i : Nat => i ≤ xs.length)
    (fun i => ⟨[(0, .ref 0 xs.length), (1, .int .i64 (k + i)), (5, .int .i64 i)], [.row e (.ints .i64 (iotaI k i ++ xs.drop i))]⟩) (fun i => xs.length - i)
    [0, 1, 5] [0] 0 rfl (by simp [St.conv, St.bf, getE, putE, getB, cv, cvL, cvB, idx, still, pack, lifts, liftOne, cellsOfB, setB]; simp [iotaI]) (by simp) fun i h1 => ?_
  simp only [kcode_at, kreg_at, bc_skip, bc_seq, bc_cond, bc_block, bc_exit, bc_ret, bc_region, lkX_cons, acond_tmp, aCase_t, aCase_f, aCase_b, afin_nil, cvE_some, resL, resV, resC, cv, cvL, pack, entryE, inPrm, Option.getD_some, acall_clo, add_sp, add_lend, kcall_nil, selOf, selC, selA, inArgs, inA, inL, okA, okL, okBx, okC, outA, outL, outU, outB, deep, deepL, boxIds, AV.bid, List.map_nil, List.map_cons, List.all_nil, List.all_cons, BEq.rfl, Bool.and_true, Bool.true_and, List.append_nil, aops_nil, aops_plain, aops_guard, kont_at, yes_at, no_at, aop_move, aop_assign, aop_pick, aop_alloc, aop_box, aop_build, aop_buildSlice, aop_load, aop_store, aop_nilCheck, aop_binOp, aop_unOp, aop_convert, aop_fieldAddr, aop_indexAddr, aop_slice, aop_extract, aop_makeSlice, aop_len, aop_max, aMax_int, slTy2, SC0, aop_append, aop_call, evalE, getE, putE, getB, setB, St.put, setsB, nth, AV.ofV, AV.blk, AV.bid, AV.one, SC.len, SC.get, List.length_nil, List.length_cons, Nat.reduceEqDiff, Nat.reduceAdd, ↓reduceIte, true_and, and_true, Bool.true_eq_false, Bool.false_eq_true, false_imp_iff, true_imp_iff, decide_eq_true_eq, Bool.not_eq_true', Bool.not_eq_false', decide_eq_false_iff_not, Option.isSome, List.nil_append, List.cons_append, aGuardO_some, aGuard_tt, aGuard_tf, aGuard_ft, aGuard_ff, aGuard_tb, aGuard_fb, aGuard_ts, aGuard_fs, aPick_b, aPick_t, aPick_f, aAlloc_one, aAlloc_flat, aBox_some, aBuild_flat, aInt_add, aBin_add, aInt_sub, aBin_sub, aInt_mul, aBin_mul, aInt_quo, aBin_quo, aInt_rem, aBin_rem, aInt_and, aBin_and, aInt_or, aBin_or, aInt_xor, aBin_xor, aInt_andNot, aBin_andNot, aInt_eql, aBin_eql, aInt_neq, aBin_neq, aInt_lss, aBin_lss, aInt_leq, aBin_leq, aInt_gtr, aBin_gtr, aInt_geq, aBin_geq, aBin_shl, aBin_shr, aShift_shl, aShift_shr, aBin_be1, aBin_bn1, aBin_be2, aBin_bn2, aBin_be3, aBin_bn3, aBin_be4, aBin_bn4, aBin_be5, aBin_bn5, aBin_be6, aBin_bn6, aBin_be7, aBin_bn7, aBin_be8, aBin_bn8, aBin_be9, aBin_bn9, aUn_b, aUn_t, aUn_f, aUn_i, aNil_ptr, aNil_pv, aConv_int, aField_ptr, aField_pv, aIdx_sl, aIdx_prm, aIdx_row, aIdx_drow, aMake_i, aMake_s, aExtr_tup, aLen_ref, aLen_nil, aLen_sl, aLen_prm, aLen_str, aBuildL_some, aBuildS_some, aLoad_1b, aLoad_1d, aLoad_fb, aLoad_fd, aLoad_1p, aLoad_fp, aLoad_ep, aLoad_rr, aLoad_rd, aStore_1, aStore_f, aStore_r, aApp_some, aAppend_nil, aAppend_ref, aSlice_h, aSlice_l, aSlice_lh, aop_slice3, aSlice3_r, aop_field, aFld_agg, aBinW_f, aBinW_t, aWrap_mul, aWrap_add, isW_tmp, isW_mulc, isW_addc, isW_sub, isW_quo, isW_rem, isW_and, isW_or, isW_xor, isW_andNot, isW_shl, isW_shr, isW_eql, isW_neq, isW_lss, isW_leq, isW_gtr, isW_geq, Int.reduceLT, aBinW_dF, aBinW_dT, bc_draw, kregD_at, aopsD_nil, aopsD_plain, aopsD_guard, kontD_at, contD_at, yesD_at, noD_at, splD_bool, splD_undef, splD_skip, splD_int, splD_tt, splD_ff, splD_str, splD_nil, splD_sl, splD_prm, splD_ref, splD_ptr, splD_rp, splD_ep, splD_pv, splD_agg, splD_tup, splD_clo, gD_tt, gD_tf, gD_ft, gD_ff, gD_ts, gD_fs, slotO_some, addTr_nil, addTr_cons, memQ_nil, memQ_cons, clash_nil, clash_cons, regC_none, regC_nil, regC_cons, regR_nil, regR_cons, Int.toNat_zero, Int.toNat_one, rng0, rng1, rng2, rng3, rng4, SC.take, SC.drop, mp_nil, acond_ct, acond_cf, mp_one0, mp_one1, mp_one2, mp_one3, kcall_one, liveB_row, liveB_box, idx, cont, still, dies, lend, lendA, lendDies, snocs, SC.snoc, SC.app, meet, AV.cells, fillA, List.getD_cons_zero, List.getD_cons_succ, List.set_cons_zero, List.set_cons_succ, List.length_singleton, Nat.le_refl, Nat.lt_irrefl, Nat.reduceLT, Nat.reduceLeDiff, Option.map_some, Option.map_none, List.flatMap_nil, List.flatMap_cons, Nat.zero_add, BEq.rfl, kcall_two, mp_two0, mp_two1, mp_two2, mp_two3, mp_two4, aop_makeFunc, plainA, Bool.true_and, sl3, ty3, un3, sl56, ty56, un56, sl85, ty85, un85, sl83, ty83, un83, sl5, ty5, un5, sl2, ty2, un2, sl21, ty21, un21, sl4, ty4, un4, sl9, un9, sl22, ty22, un22, sl55, sl62, sl73, sl77, sl86, ty73, ty39, sl39, ty33, sl33, ty79, sl79, ty67, sl67, inR64, inRu64, inRu32, Int.toNat_natCast]
  have el : (iotaI k i ++ xs.drop i).length = xs.length := by simp [iotaI_len]; omega
  refine ⟨fun hi => ⟨⟨el, by omega, by omega⟩, ⟨el, by omega⟩, by omega, by omega, ?_⟩, fun hi => ?_⟩
  · refine klp_of (i + 1) ?_ (by omega) (by omega)
    have := mark_step (k := k) (xs := xs) (i := i) (by omega)
    rw [this]
    simp [St.conv, St.bf, getE, putE, getB, cv, cvL, cvB, idx, still, pack, lifts, liftOne, cellsOfB, setB]
    omega
  · have : i = xs.length := by omega
    subst this
    refine afin_of [0] rfl rfl (by simp [St.conv, St.bf, getE, putE, getB, cv, cvL, cvB, idx, still, pack, lifts, liftOne, cellsOfB, setB]) (by simp [St.conv, St.bf, getE, putE, getB, cv, cvL, cvB, idx, still, pack, lifts, liftOne, cellsOfB, setB])
def lend_laws_markIntS : List Nat := [0]
def sp_laws_markIntS : List AV → List Bx → (AV → List Bx → Prop) → Prop
  | [.ref 0 n, .int .i64 k], [.row e (.ints .i64 xs)], K => (n = xs.length) ∧ (0 ≤ k ∧ k + xs.length ≤ 9223372036854775807) ∧ K (.int .i64 (k + xs.length)) [.row e (.ints .i64 (iotaI k xs.length))]
  | _, _, _ => False
theorem at_laws_markIntS {k : Int} {e : TypeId} {n : Nat} {xs : List Int} {K : AV → List Bx → Prop} : sp_laws_markIntS [.ref 0 n, .int .i64 k] [.row e (.ints .i64 xs)] K = ((n = xs.length) ∧ (0 ≤ k ∧ k + xs.length ≤ 9223372036854775807) ∧ K (.int .i64 (k + xs.length)) [.row e (.ints .i64 (iotaI k xs.length))]) := id rfl
theorem ok_laws_markIntS : ∀ args giv K, sp_laws_markIntS args giv K → ∃ r outs, ARuns Try.prog 23 args giv r outs ∧ K r outs := by
  intro args giv K hk
  unfold sp_laws_markIntS at hk
  split at hk
  · obtain ⟨hp1, hp2, hk⟩ := hk; exact ⟨_, _, runs_laws_markIntS _ _ _ _ hp1 hp2, hk⟩
  · exact hk.elim
theorem is_laws_heldIntS : FnIs Try.prog 24 21 [.tmp 4] (Try.f24.body.getD .skip) := ⟨⟨Try.f24, by kernel_rfl, by kernel_rfl, by kernel_rfl, by kernel_rfl⟩, by kernel_rfl, by kernel_rfl⟩
def G_laws_heldIntS : Gm := Gm.none
theorem G_laws_heldIntS_ok : G_laws_heldIntS.ok Try.prog := Gm.none_ok
set_option maxHeartbeats 1000000 in
set_option maxRecDepth 100000 in
theorem runs_laws_heldIntS (xs : List Int) (k : Int) (hp1 : 0 ≤ k ∧ k + xs.length ≤ 9223372036854775807) : ARuns Try.prog 24 [.sl none (.ints .i64 xs), .int .i64 k] [] (.int .i64 (heldI xs k)) [] := by
  refine ARuns_bc G_laws_heldIntS_ok is_laws_heldIntS (by simp) fun hl hlB => ?_
  simp only [kcode_at, kreg_at, bc_skip, bc_seq, bc_cond, bc_block, bc_exit, bc_ret, bc_region, lkX_cons, acond_tmp, aCase_t, aCase_f, aCase_b, afin_nil, cvE_some, resL, resV, resC, cv, cvL, pack, entryE, inPrm, Option.getD_some, acall_clo, add_sp, add_lend, kcall_nil, selOf, selC, selA, inArgs, inA, inL, okA, okL, okBx, okC, outA, outL, outU, outB, deep, deepL, boxIds, AV.bid, List.map_nil, List.map_cons, List.all_nil, List.all_cons, BEq.rfl, Bool.and_true, Bool.true_and, List.append_nil, aops_nil, aops_plain, aops_guard, kont_at, yes_at, no_at, aop_move, aop_assign, aop_pick, aop_alloc, aop_box, aop_build, aop_buildSlice, aop_load, aop_store, aop_nilCheck, aop_binOp, aop_unOp, aop_convert, aop_fieldAddr, aop_indexAddr, aop_slice, aop_extract, aop_makeSlice, aop_len, aop_max, aMax_int, slTy2, SC0, aop_append, aop_call, evalE, getE, putE, getB, setB, St.put, setsB, nth, AV.ofV, AV.blk, AV.bid, AV.one, SC.len, SC.get, List.length_nil, List.length_cons, Nat.reduceEqDiff, Nat.reduceAdd, ↓reduceIte, true_and, and_true, Bool.true_eq_false, Bool.false_eq_true, false_imp_iff, true_imp_iff, decide_eq_true_eq, Bool.not_eq_true', Bool.not_eq_false', decide_eq_false_iff_not, Option.isSome, List.nil_append, List.cons_append, aGuardO_some, aGuard_tt, aGuard_tf, aGuard_ft, aGuard_ff, aGuard_tb, aGuard_fb, aGuard_ts, aGuard_fs, aPick_b, aPick_t, aPick_f, aAlloc_one, aAlloc_flat, aBox_some, aBuild_flat, aInt_add, aBin_add, aInt_sub, aBin_sub, aInt_mul, aBin_mul, aInt_quo, aBin_quo, aInt_rem, aBin_rem, aInt_and, aBin_and, aInt_or, aBin_or, aInt_xor, aBin_xor, aInt_andNot, aBin_andNot, aInt_eql, aBin_eql, aInt_neq, aBin_neq, aInt_lss, aBin_lss, aInt_leq, aBin_leq, aInt_gtr, aBin_gtr, aInt_geq, aBin_geq, aBin_shl, aBin_shr, aShift_shl, aShift_shr, aBin_be1, aBin_bn1, aBin_be2, aBin_bn2, aBin_be3, aBin_bn3, aBin_be4, aBin_bn4, aBin_be5, aBin_bn5, aBin_be6, aBin_bn6, aBin_be7, aBin_bn7, aBin_be8, aBin_bn8, aBin_be9, aBin_bn9, aUn_b, aUn_t, aUn_f, aUn_i, aNil_ptr, aNil_pv, aConv_int, aField_ptr, aField_pv, aIdx_sl, aIdx_prm, aIdx_row, aIdx_drow, aMake_i, aMake_s, aExtr_tup, aLen_ref, aLen_nil, aLen_sl, aLen_prm, aLen_str, aBuildL_some, aBuildS_some, aLoad_1b, aLoad_1d, aLoad_fb, aLoad_fd, aLoad_1p, aLoad_fp, aLoad_ep, aLoad_rr, aLoad_rd, aStore_1, aStore_f, aStore_r, aApp_some, aAppend_nil, aAppend_ref, aSlice_h, aSlice_l, aSlice_lh, aop_slice3, aSlice3_r, aop_field, aFld_agg, aBinW_f, aBinW_t, aWrap_mul, aWrap_add, isW_tmp, isW_mulc, isW_addc, isW_sub, isW_quo, isW_rem, isW_and, isW_or, isW_xor, isW_andNot, isW_shl, isW_shr, isW_eql, isW_neq, isW_lss, isW_leq, isW_gtr, isW_geq, Int.reduceLT, aBinW_dF, aBinW_dT, bc_draw, kregD_at, aopsD_nil, aopsD_plain, aopsD_guard, kontD_at, contD_at, yesD_at, noD_at, splD_bool, splD_undef, splD_skip, splD_int, splD_tt, splD_ff, splD_str, splD_nil, splD_sl, splD_prm, splD_ref, splD_ptr, splD_rp, splD_ep, splD_pv, splD_agg, splD_tup, splD_clo, gD_tt, gD_tf, gD_ft, gD_ff, gD_ts, gD_fs, slotO_some, addTr_nil, addTr_cons, memQ_nil, memQ_cons, clash_nil, clash_cons, regC_none, regC_nil, regC_cons, regR_nil, regR_cons, Int.toNat_zero, Int.toNat_one, rng0, rng1, rng2, rng3, rng4, SC.take, SC.drop, mp_nil, acond_ct, acond_cf, mp_one0, mp_one1, mp_one2, mp_one3, kcall_one, liveB_row, liveB_box, idx, cont, still, dies, lend, lendA, lendDies, snocs, SC.snoc, SC.app, meet, AV.cells, fillA, List.getD_cons_zero, List.getD_cons_succ, List.set_cons_zero, List.set_cons_succ, List.length_singleton, Nat.le_refl, Nat.lt_irrefl, Nat.reduceLT, Nat.reduceLeDiff, Option.map_some, Option.map_none, List.flatMap_nil, List.flatMap_cons, Nat.zero_add, BEq.rfl, kcall_two, mp_two0, mp_two1, mp_two2, mp_two3, mp_two4, aop_makeFunc, plainA, Bool.true_and, sl3, ty3, un3, sl56, ty56, un56, sl85, ty85, un85, sl83, ty83, un83, sl5, ty5, un5, sl2, ty2, un2, sl21, ty21, un21, sl4, ty4, un4, sl9, un9, sl22, ty22, un22, sl55, sl62, sl73, sl77, sl86, ty73, ty39, sl39, ty33, sl33, ty79, sl79, ty67, sl67, inR64, inRu64, inRu32, Try.f24]
  refine bc_loop (fun i : Nat => i ≤ xs.length ∧ ∀ j, j < i → xs.getD j 0 = k + j)
    (fun i => ⟨[(0, .prm 0 (.ints .i64 xs)), (1, .int .i64 (k + i)), (5, .int .i64 i)], []⟩) (fun i => xs.length - i)
    [0, 1, 5] [] 0 rfl (by simp [St.conv, St.bf, getE, putE, getB, cv, cvL, cvB, idx, still, pack, lifts, liftOne, cellsOfB, setB]) (by simp) fun i ⟨h1, h2⟩ => ?_
  simp only [kcode_at, kreg_at, bc_skip, bc_seq, bc_cond, bc_block, bc_exit, bc_ret, bc_region, lkX_cons, acond_tmp, aCase_t, aCase_f, aCase_b, afin_nil, cvE_some, resL, resV, resC, cv, cvL, pack, entryE, inPrm, Option.getD_some, acall_clo, add_sp, add_lend, kcall_nil, selOf, selC, selA, inArgs, inA, inL, okA, okL, okBx, okC, outA, outL, outU, outB, deep, deepL, boxIds, AV.bid, List.map_nil, List.map_cons, List.all_nil, List.all_cons, BEq.rfl, Bool.and_true, Bool.true_and, List.append_nil, aops_nil, aops_plain, aops_guard, kont_at, yes_at, no_at, aop_move, aop_assign, aop_pick, aop_alloc, aop_box, aop_build, aop_buildSlice, aop_load, aop_store, aop_nilCheck, aop_binOp, aop_unOp, aop_convert, aop_fieldAddr, aop_indexAddr, aop_slice, aop_extract, aop_makeSlice, aop_len, aop_max, aMax_int, slTy2, SC0, aop_append, aop_call, evalE, getE, putE, getB, setB, St.put, setsB, nth, AV.ofV, AV.blk, AV.bid, AV.one, SC.len, SC.get, List.length_nil, List.length_cons, Nat.reduceEqDiff, Nat.reduceAdd, ↓reduceIte, true_and, and_true, Bool.true_eq_false, Bool.false_eq_true, false_imp_iff, true_imp_iff, decide_eq_true_eq, Bool.not_eq_true', Bool.not_eq_false', decide_eq_false_iff_not, Option.isSome, List.nil_append, List.cons_append, aGuardO_some, aGuard_tt, aGuard_tf, aGuard_ft, aGuard_ff, aGuard_tb, aGuard_fb, aGuard_ts, aGuard_fs, aPick_b, aPick_t, aPick_f, aAlloc_one, aAlloc_flat, aBox_some, aBuild_flat, aInt_add, aBin_add, aInt_sub, aBin_sub, aInt_mul, aBin_mul, aInt_quo, aBin_quo, aInt_rem, aBin_rem, aInt_and, aBin_and, aInt_or, aBin_or, aInt_xor, aBin_xor, aInt_andNot, aBin_andNot, aInt_eql, aBin_eql, aInt_neq, aBin_neq, aInt_lss, aBin_lss, aInt_leq, aBin_leq, aInt_gtr, aBin_gtr, aInt_geq, aBin_geq, aBin_shl, aBin_shr, aShift_shl, aShift_shr, aBin_be1, aBin_bn1, aBin_be2, aBin_bn2, aBin_be3, aBin_bn3, aBin_be4, aBin_bn4, aBin_be5, aBin_bn5, aBin_be6, aBin_bn6, aBin_be7, aBin_bn7, aBin_be8, aBin_bn8, aBin_be9, aBin_bn9, aUn_b, aUn_t, aUn_f, aUn_i, aNil_ptr, aNil_pv, aConv_int, aField_ptr, aField_pv, aIdx_sl, aIdx_prm, aIdx_row, aIdx_drow, aMake_i, aMake_s, aExtr_tup, aLen_ref, aLen_nil, aLen_sl, aLen_prm, aLen_str, aBuildL_some, aBuildS_some, aLoad_1b, aLoad_1d, aLoad_fb, aLoad_fd, aLoad_1p, aLoad_fp, aLoad_ep, aLoad_rr, aLoad_rd, aStore_1, aStore_f, aStore_r, aApp_some, aAppend_nil, aAppend_ref, aSlice_h, aSlice_l, aSlice_lh, aop_slice3, aSlice3_r, aop_field, aFld_agg, aBinW_f, aBinW_t, aWrap_mul, aWrap_add, isW_tmp, isW_mulc, isW_addc, isW_sub, isW_quo, isW_rem, isW_and, isW_or, isW_xor, isW_andNot, isW_shl, isW_shr, isW_eql, isW_neq, isW_lss, isW_leq, isW_gtr, isW_geq, Int.reduceLT, aBinW_dF, aBinW_dT, bc_draw, kregD_at, aopsD_nil, aopsD_plain, aopsD_guard, kontD_at, contD_at, yesD_at, noD_at, splD_bool, splD_undef, splD_skip, splD_int, splD_tt, splD_ff, splD_str, splD_nil, splD_sl, splD_prm, splD_ref, splD_ptr, splD_rp, splD_ep, splD_pv, splD_agg, splD_tup, splD_clo, gD_tt, gD_tf, gD_ft, gD_ff, gD_ts, gD_fs, slotO_some, addTr_nil, addTr_cons, memQ_nil, memQ_cons, clash_nil, clash_cons, regC_none, regC_nil, regC_cons, regR_nil, regR_cons, Int.toNat_zero, Int.toNat_one, rng0, rng1, rng2, rng3, rng4, SC.take, SC.drop, mp_nil, acond_ct, acond_cf, mp_one0, mp_one1, mp_one2, mp_one3, kcall_one, liveB_row, liveB_box, idx, cont, still, dies, lend, lendA, lendDies, snocs, SC.snoc, SC.app, meet, AV.cells, fillA, List.getD_cons_zero, List.getD_cons_succ, List.set_cons_zero, List.set_cons_succ, List.length_singleton, Nat.le_refl, Nat.lt_irrefl, Nat.reduceLT, Nat.reduceLeDiff, Option.map_some, Option.map_none, List.flatMap_nil, List.flatMap_cons, Nat.zero_add, BEq.rfl, kcall_two, mp_two0, mp_two1, mp_two2, mp_two3, mp_two4, aop_makeFunc, plainA, Bool.true_and, sl3, ty3, un3, sl56, ty56, un56, sl85, ty85, un85, sl83, ty83, un83, sl5, ty5, un5, sl2, ty2, un2, sl21, ty21, un21, sl4, ty4, un4, sl9, un9, sl22, ty22, un22, sl55, sl62, sl73, sl77, sl86, ty73, ty39, sl39, ty33, sl33, ty79, sl79, ty67, sl67, inR64, inRu64, inRu32, Int.toNat_natCast]
  refine ⟨fun hi => ⟨by omega, fun h => ?_, fun h => ⟨by omega, by omega, ?_⟩⟩, fun hi => ?_⟩
  · rw [heldI_f (i := i) (by omega) h]
  · refine klp_of (i + 1) ?_ ⟨by omega, fun j hj => ?_⟩ (by omega)
    · simp [St.conv, St.bf, getE, putE, getB, cv, cvL, cvB, idx, still, pack, lifts, liftOne, cellsOfB, setB]
      omega
    · by_cases e : j = i
      · rw [e]; exact h
      · exact h2 j (by omega)
  · have : i = xs.length := by omega
    subst this
    rw [heldI_t h2]
def lend_laws_heldIntS : List Nat := []
def sp_laws_heldIntS : List AV → List Bx → (AV → List Bx → Prop) → Prop
  | [.sl none (.ints .i64 xs), .int .i64 k], [], K => (0 ≤ k ∧ k + xs.length ≤ 9223372036854775807) ∧ K (.int .i64 (heldI xs k)) []
  | _, _, _ => False
theorem at_laws_heldIntS {xs : List Int} {k : Int} {K : AV → List Bx → Prop} : sp_laws_heldIntS [.sl none (.ints .i64 xs), .int .i64 k] [] K = ((0 ≤ k ∧ k + xs.length ≤ 9223372036854775807) ∧ K (.int .i64 (heldI xs k)) []) := id rfl
theorem ok_laws_heldIntS : ∀ args giv K, sp_laws_heldIntS args giv K → ∃ r outs, ARuns Try.prog 24 args giv r outs ∧ K r outs := by
  intro args giv K hk
  unfold sp_laws_heldIntS at hk
  split at hk
  · obtain ⟨hp1, hk⟩ := hk; exact ⟨_, _, runs_laws_heldIntS _ _ hp1, hk⟩
  · exact hk.elim
theorem is_laws_eqFamily : FnIs Try.prog 27 16 [.tmp 4] (Try.f27.body.getD .skip) := ⟨⟨Try.f27, by kernel_rfl, by kernel_rfl, by kernel_rfl, by kernel_rfl⟩, by kernel_rfl, by kernel_rfl⟩
def G_laws_eqFamily : Gm := (Gm.none.add 18 lend_laws_eqIntS sp_laws_eqIntS)
theorem G_laws_eqFamily_ok : G_laws_eqFamily.ok Try.prog := (Gm.add_ok Gm.none_ok ok_laws_eqIntS)
theorem gs_laws_eqFamily_18 : G_laws_eqFamily.sp 18 = sp_laws_eqIntS ∧ G_laws_eqFamily.lend 18 = lend_laws_eqIntS := ⟨rfl, rfl⟩
set_option maxHeartbeats 1000000 in
set_option maxRecDepth 100000 in
theorem runs_laws_eqFamily (n m : Int) (xs ys : List Int) : ARuns Try.prog 27 [.agg [.int .i64 n, .sl none (.ints .i64 xs)], .agg [.int .i64 m, .sl none (.ints .i64 ys)]] [] (.bool (decide (n = m) && decide (xs = ys))) [] := by
  refine ARuns_bc G_laws_eqFamily_ok is_laws_eqFamily (by simp) fun hl hlB => ?_
  simp only [kcode_at, kreg_at, bc_skip, bc_seq, bc_cond, bc_block, bc_exit, bc_ret, bc_region, lkX_cons, acond_tmp, aCase_t, aCase_f, aCase_b, afin_nil, cvE_some, resL, resV, resC, cv, cvL, pack, entryE, inPrm, Option.getD_some, acall_clo, add_sp, add_lend, kcall_nil, selOf, selC, selA, inArgs, inA, inL, okA, okL, okBx, okC, outA, outL, outU, outB, deep, deepL, boxIds, AV.bid, List.map_nil, List.map_cons, List.all_nil, List.all_cons, BEq.rfl, Bool.and_true, Bool.true_and, List.append_nil, aops_nil, aops_plain, aops_guard, kont_at, yes_at, no_at, aop_move, aop_assign, aop_pick, aop_alloc, aop_box, aop_build, aop_buildSlice, aop_load, aop_store, aop_nilCheck, aop_binOp, aop_unOp, aop_convert, aop_fieldAddr, aop_indexAddr, aop_slice, aop_extract, aop_makeSlice, aop_len, aop_max, aMax_int, slTy2, SC0, aop_append, aop_call, evalE, getE, putE, getB, setB, St.put, setsB, nth, AV.ofV, AV.blk, AV.bid, AV.one, SC.len, SC.get, List.length_nil, List.length_cons, Nat.reduceEqDiff, Nat.reduceAdd, ↓reduceIte, true_and, and_true, Bool.true_eq_false, Bool.false_eq_true, false_imp_iff, true_imp_iff, decide_eq_true_eq, Bool.not_eq_true', Bool.not_eq_false', decide_eq_false_iff_not, Option.isSome, List.nil_append, List.cons_append, aGuardO_some, aGuard_tt, aGuard_tf, aGuard_ft, aGuard_ff, aGuard_tb, aGuard_fb, aGuard_ts, aGuard_fs, aPick_b, aPick_t, aPick_f, aAlloc_one, aAlloc_flat, aBox_some, aBuild_flat, aInt_add, aBin_add, aInt_sub, aBin_sub, aInt_mul, aBin_mul, aInt_quo, aBin_quo, aInt_rem, aBin_rem, aInt_and, aBin_and, aInt_or, aBin_or, aInt_xor, aBin_xor, aInt_andNot, aBin_andNot, aInt_eql, aBin_eql, aInt_neq, aBin_neq, aInt_lss, aBin_lss, aInt_leq, aBin_leq, aInt_gtr, aBin_gtr, aInt_geq, aBin_geq, aBin_shl, aBin_shr, aShift_shl, aShift_shr, aBin_be1, aBin_bn1, aBin_be2, aBin_bn2, aBin_be3, aBin_bn3, aBin_be4, aBin_bn4, aBin_be5, aBin_bn5, aBin_be6, aBin_bn6, aBin_be7, aBin_bn7, aBin_be8, aBin_bn8, aBin_be9, aBin_bn9, aUn_b, aUn_t, aUn_f, aUn_i, aNil_ptr, aNil_pv, aConv_int, aField_ptr, aField_pv, aIdx_sl, aIdx_prm, aIdx_row, aIdx_drow, aMake_i, aMake_s, aExtr_tup, aLen_ref, aLen_nil, aLen_sl, aLen_prm, aLen_str, aBuildL_some, aBuildS_some, aLoad_1b, aLoad_1d, aLoad_fb, aLoad_fd, aLoad_1p, aLoad_fp, aLoad_ep, aLoad_rr, aLoad_rd, aStore_1, aStore_f, aStore_r, aApp_some, aAppend_nil, aAppend_ref, aSlice_h, aSlice_l, aSlice_lh, aop_slice3, aSlice3_r, aop_field, aFld_agg, aBinW_f, aBinW_t, aWrap_mul, aWrap_add, isW_tmp, isW_mulc, isW_addc, isW_sub, isW_quo, isW_rem, isW_and, isW_or, isW_xor, isW_andNot, isW_shl, isW_shr, isW_eql, isW_neq, isW_lss, isW_leq, isW_gtr, isW_geq, Int.reduceLT, aBinW_dF, aBinW_dT, bc_draw, kregD_at, aopsD_nil, aopsD_plain, aopsD_guard, kontD_at, contD_at, yesD_at, noD_at, splD_bool, splD_undef, splD_skip, splD_int, splD_tt, splD_ff, splD_str, splD_nil, splD_sl, splD_prm, splD_ref, splD_ptr, splD_rp, splD_ep, splD_pv, splD_agg, splD_tup, splD_clo, gD_tt, gD_tf, gD_ft, gD_ff, gD_ts, gD_fs, slotO_some, addTr_nil, addTr_cons, memQ_nil, memQ_cons, clash_nil, clash_cons, regC_none, regC_nil, regC_cons, regR_nil, regR_cons, Int.toNat_zero, Int.toNat_one, rng0, rng1, rng2, rng3, rng4, SC.take, SC.drop, mp_nil, acond_ct, acond_cf, mp_one0, mp_one1, mp_one2, mp_one3, kcall_one, liveB_row, liveB_box, idx, cont, still, dies, lend, lendA, lendDies, snocs, SC.snoc, SC.app, meet, AV.cells, fillA, List.getD_cons_zero, List.getD_cons_succ, List.set_cons_zero, List.set_cons_succ, List.length_singleton, Nat.le_refl, Nat.lt_irrefl, Nat.reduceLT, Nat.reduceLeDiff, Option.map_some, Option.map_none, List.flatMap_nil, List.flatMap_cons, Nat.zero_add, BEq.rfl, kcall_two, mp_two0, mp_two1, mp_two2, mp_two3, mp_two4, aop_makeFunc, plainA, Bool.true_and, sl3, ty3, un3, sl56, ty56, un56, sl85, ty85, un85, sl83, ty83, un83, sl5, ty5, un5, sl2, ty2, un2, sl21, ty21, un21, sl4, ty4, un4, sl9, un9, sl22, ty22, un22, sl55, sl62, sl73, sl77, sl86, ty73, ty39, sl39, ty33, sl33, ty79, sl79, ty67, sl67, inR64, inRu64, inRu32, gs_laws_eqFamily_18, at_laws_eqIntS, lend_laws_eqIntS, Try.f27]
  refine ⟨fun h => by simp [h], fun h => ⟨fun h2 => by simp [h2], fun h2 => by simp [h, h2]⟩⟩
def lend_laws_eqFamily : List Nat := []
def sp_laws_eqFamily : List AV → List Bx → (AV → List Bx → Prop) → Prop
  | [.agg [.int .i64 n, .sl none (.ints .i64 xs)], .agg [.int .i64 m, .sl none (.ints .i64 ys)]], [], K => K (.bool (decide (n = m) && decide (xs = ys))) []
  | _, _, _ => False
theorem at_laws_eqFamily {n m : Int} {xs ys : List Int} {K : AV → List Bx → Prop} : sp_laws_eqFamily [.agg [.int .i64 n, .sl none (.ints .i64 xs)], .agg [.int .i64 m, .sl none (.ints .i64 ys)]] [] K = (K (.bool (decide (n = m) && decide (xs = ys))) []) := id rfl
theorem ok_laws_eqFamily : ∀ args giv K, sp_laws_eqFamily args giv K → ∃ r outs, ARuns Try.prog 27 args giv r outs ∧ K r outs := by
  intro args giv K hk
  unfold sp_laws_eqFamily at hk
  split at hk
  · exact ⟨_, _, runs_laws_eqFamily _ _ _ _ , hk⟩
  · exact hk.elim
theorem is_laws_markFamily : FnIs Try.prog 28 10 [.tmp 4] (Try.f28.body.getD .skip) := ⟨⟨Try.f28, by kernel_rfl, by kernel_rfl, by kernel_rfl, by kernel_rfl⟩, by kernel_rfl, by kernel_rfl⟩
def G_laws_markFamily : Gm := (Gm.none.add 23 lend_laws_markIntS sp_laws_markIntS)
theorem G_laws_markFamily_ok : G_laws_markFamily.ok Try.prog := (Gm.add_ok Gm.none_ok ok_laws_markIntS)
theorem gs_laws_markFamily_23 : G_laws_markFamily.sp 23 = sp_laws_markIntS ∧ G_laws_markFamily.lend 23 = lend_laws_markIntS := ⟨rfl, rfl⟩
set_option maxHeartbeats 1000000 in
set_option maxRecDepth 100000 in
theorem runs_laws_markFamily (m k : Int) (e : TypeId) (n : Nat) (xs : List Int) (hp1 : n = xs.length) (hp2 : 0 ≤ k ∧ k + xs.length ≤ 9223372036854775807) : ARuns Try.prog 28 [.agg [.int .i64 m, .ref 0 n], .int .i64 k] [.row e (.ints .i64 xs)] (.int .i64 (k + xs.length)) [.row e (.ints .i64 (iotaI k xs.length))] := by
  refine ARuns_bc G_laws_markFamily_ok is_laws_markFamily (by simp) fun hl hlB => ?_
  simp only [kcode_at, kreg_at, bc_skip, bc_seq, bc_cond, bc_block, bc_exit, bc_ret, bc_region, lkX_cons, acond_tmp, aCase_t, aCase_f, aCase_b, afin_nil, cvE_some, resL, resV, resC, cv, cvL, pack, entryE, inPrm, Option.getD_some, acall_clo, add_sp, add_lend, kcall_nil, selOf, selC, selA, inArgs, inA, inL, okA, okL, okBx, okC, outA, outL, outU, outB, deep, deepL, boxIds, AV.bid, List.map_nil, List.map_cons, List.all_nil, List.all_cons, BEq.rfl, Bool.and_true, Bool.true_and, List.append_nil, aops_nil, aops_plain, aops_guard, kont_at, yes_at, no_at, aop_move, aop_assign, aop_pick, aop_alloc, aop_box, aop_build, aop_buildSlice, aop_load, aop_store, aop_nilCheck, aop_binOp, aop_unOp, aop_convert, aop_fieldAddr, aop_indexAddr, aop_slice, aop_extract, aop_makeSlice, aop_len, aop_max, aMax_int, slTy2, SC0, aop_append, aop_call, evalE, getE, putE, getB, setB, St.put, setsB, nth, AV.ofV, AV.blk, AV.bid, AV.one, SC.len, SC.get, List.length_nil, List.length_cons, Nat.reduceEqDiff, Nat.reduceAdd, ↓reduceIte, true_and, and_true, Bool.true_eq_false, Bool.false_eq_true, false_imp_iff, true_imp_iff, decide_eq_true_eq, Bool.not_eq_true', Bool.not_eq_false', decide_eq_false_iff_not, Option.isSome, List.nil_append, List.cons_append, aGuardO_some, aGuard_tt, aGuard_tf, aGuard_ft, aGuard_ff, aGuard_tb, aGuard_fb, aGuard_ts, aGuard_fs, aPick_b, aPick_t, aPick_f, aAlloc_one, aAlloc_flat, aBox_some, aBuild_flat, aInt_add, aBin_add, aInt_sub, aBin_sub, aInt_mul, aBin_mul, aInt_quo, aBin_quo, aInt_rem, aBin_rem, aInt_and, aBin_and, aInt_or, aBin_or, aInt_xor, aBin_xor, aInt_andNot, aBin_andNot, aInt_eql, aBin_eql, aInt_neq, aBin_neq, aInt_lss, aBin_lss, aInt_leq, aBin_leq, aInt_gtr, aBin_gtr, aInt_geq, aBin_geq, aBin_shl, aBin_shr, aShift_shl, aShift_shr, aBin_be1, aBin_bn1, aBin_be2, aBin_bn2, aBin_be3, aBin_bn3, aBin_be4, aBin_bn4, aBin_be5, aBin_bn5, aBin_be6, aBin_bn6, aBin_be7, aBin_bn7, aBin_be8, aBin_bn8, aBin_be9, aBin_bn9, aUn_b, aUn_t, aUn_f, aUn_i, aNil_ptr, aNil_pv, aConv_int, aField_ptr, aField_pv, aIdx_sl, aIdx_prm, aIdx_row, aIdx_drow, aMake_i, aMake_s, aExtr_tup, aLen_ref, aLen_nil, aLen_sl, aLen_prm, aLen_str, aBuildL_some, aBuildS_some, aLoad_1b, aLoad_1d, aLoad_fb, aLoad_fd, aLoad_1p, aLoad_fp, aLoad_ep, aLoad_rr, aLoad_rd, aStore_1, aStore_f, aStore_r, aApp_some, aAppend_nil, aAppend_ref, aSlice_h, aSlice_l, aSlice_lh, aop_slice3, aSlice3_r, aop_field, aFld_agg, aBinW_f, aBinW_t, aWrap_mul, aWrap_add, isW_tmp, isW_mulc, isW_addc, isW_sub, isW_quo, isW_rem, isW_and, isW_or, isW_xor, isW_andNot, isW_shl, isW_shr, isW_eql, isW_neq, isW_lss, isW_leq, isW_gtr, isW_geq, Int.reduceLT, aBinW_dF, aBinW_dT, bc_draw, kregD_at, aopsD_nil, aopsD_plain, aopsD_guard, kontD_at, contD_at, yesD_at, noD_at, splD_bool, splD_undef, splD_skip, splD_int, splD_tt, splD_ff, splD_str, splD_nil, splD_sl, splD_prm, splD_ref, splD_ptr, splD_rp, splD_ep, splD_pv, splD_agg, splD_tup, splD_clo, gD_tt, gD_tf, gD_ft, gD_ff, gD_ts, gD_fs, slotO_some, addTr_nil, addTr_cons, memQ_nil, memQ_cons, clash_nil, clash_cons, regC_none, regC_nil, regC_cons, regR_nil, regR_cons, Int.toNat_zero, Int.toNat_one, rng0, rng1, rng2, rng3, rng4, SC.take, SC.drop, mp_nil, acond_ct, acond_cf, mp_one0, mp_one1, mp_one2, mp_one3, kcall_one, liveB_row, liveB_box, idx, cont, still, dies, lend, lendA, lendDies, snocs, SC.snoc, SC.app, meet, AV.cells, fillA, List.getD_cons_zero, List.getD_cons_succ, List.set_cons_zero, List.set_cons_succ, List.length_singleton, Nat.le_refl, Nat.lt_irrefl, Nat.reduceLT, Nat.reduceLeDiff, Option.map_some, Option.map_none, List.flatMap_nil, List.flatMap_cons, Nat.zero_add, BEq.rfl, kcall_two, mp_two0, mp_two1, mp_two2, mp_two3, mp_two4, aop_makeFunc, plainA, Bool.true_and, sl3, ty3, un3, sl56, ty56, un56, sl85, ty85, un85, sl83, ty83, un83, sl5, ty5, un5, sl2, ty2, un2, sl21, ty21, un21, sl4, ty4, un4, sl9, un9, sl22, ty22, un22, sl55, sl62, sl73, sl77, sl86, ty73, ty39, sl39, ty33, sl33, ty79, sl79, ty67, sl67, inR64, inRu64, inRu32, gs_laws_markFamily_23, at_laws_markIntS, lend_laws_markIntS, Try.f28]
  subst hp1
  exact ⟨rfl, hp2, afin_of [0] rfl rfl (by simp [St.conv, St.bf, getE, putE, getB, cv, cvL, cvB, idx, still, pack, lifts, liftOne, cellsOfB, setB]) (by simp [St.conv, St.bf, getE, putE, getB, cv, cvL, cvB, idx, still, pack, lifts, liftOne, cellsOfB, setB])⟩
def lend_laws_markFamily : List Nat := [0]
def sp_laws_markFamily : List AV → List Bx → (AV → List Bx → Prop) → Prop
  | [.agg [.int .i64 m, .ref 0 n], .int .i64 k], [.row e (.ints .i64 xs)], K => (n = xs.length) ∧ (0 ≤ k ∧ k + xs.length ≤ 9223372036854775807) ∧ K (.int .i64 (k + xs.length)) [.row e (.ints .i64 (iotaI k xs.length))]
  | _, _, _ => False
theorem at_laws_markFamily {m k : Int} {e : TypeId} {n : Nat} {xs : List Int} {K : AV → List Bx → Prop} : sp_laws_markFamily [.agg [.int .i64 m, .ref 0 n], .int .i64 k] [.row e (.ints .i64 xs)] K = ((n = xs.length) ∧ (0 ≤ k ∧ k + xs.length ≤ 9223372036854775807) ∧ K (.int .i64 (k + xs.length)) [.row e (.ints .i64 (iotaI k xs.length))]) := id rfl
theorem ok_laws_markFamily : ∀ args giv K, sp_laws_markFamily args giv K → ∃ r outs, ARuns Try.prog 28 args giv r outs ∧ K r outs := by
  intro args giv K hk
  unfold sp_laws_markFamily at hk
  split at hk
  · obtain ⟨hp1, hp2, hk⟩ := hk; exact ⟨_, _, runs_laws_markFamily _ _ _ _ _ hp1 hp2, hk⟩
  · exact hk.elim
theorem is_laws_szIntS : FnIs Try.prog 67 12 [.tmp 4] (Try.f67.body.getD .skip) := ⟨⟨Try.f67, by kernel_rfl, by kernel_rfl, by kernel_rfl, by kernel_rfl⟩, by kernel_rfl, by kernel_rfl⟩
def G_laws_szIntS : Gm := Gm.none
theorem G_laws_szIntS_ok : G_laws_szIntS.ok Try.prog := Gm.none_ok
set_option maxHeartbeats 1000000 in
set_option maxRecDepth 100000 in
theorem runs_laws_szIntS (xs : List Int) (n : Int) (hp1 : 0 ≤ n ∧ n ≤ 9223372036854775807) : ARuns Try.prog 67 [.sl none (.ints .i64 xs), .int .i64 n] [] (.int .i64 (if n - xs.length < 0 then -1 else n - xs.length)) [] := by
  refine ARuns_bc G_laws_szIntS_ok is_laws_szIntS (by simp) fun hl hlB => ?_
  simp only [kcode_at, kreg_at, bc_skip, bc_seq, bc_cond, bc_block, bc_exit, bc_ret, bc_region, lkX_cons, acond_tmp, aCase_t, aCase_f, aCase_b, afin_nil, cvE_some, resL, resV, resC, cv, cvL, pack, entryE, inPrm, Option.getD_some, acall_clo, add_sp, add_lend, kcall_nil, selOf, selC, selA, inArgs, inA, inL, okA, okL, okBx, okC, outA, outL, outU, outB, deep, deepL, boxIds, AV.bid, List.map_nil, List.map_cons, List.all_nil, List.all_cons, BEq.rfl, Bool.and_true, Bool.true_and, List.append_nil, aops_nil, aops_plain, aops_guard, kont_at, yes_at, no_at, aop_move, aop_assign, aop_pick, aop_alloc, aop_box, aop_build, aop_buildSlice, aop_load, aop_store, aop_nilCheck, aop_binOp, aop_unOp, aop_convert, aop_fieldAddr, aop_indexAddr, aop_slice, aop_extract, aop_makeSlice, aop_len, aop_max, aMax_int, slTy2, SC0, aop_append, aop_call, evalE, getE, putE, getB, setB, St.put, setsB, nth, AV.ofV, AV.blk, AV.bid, AV.one, SC.len, SC.get, List.length_nil, List.length_cons, Nat.reduceEqDiff, Nat.reduceAdd, ↓reduceIte, true_and, and_true, Bool.true_eq_false, Bool.false_eq_true, false_imp_iff, true_imp_iff, decide_eq_true_eq, Bool.not_eq_true', Bool.not_eq_false', decide_eq_false_iff_not, Option.isSome, List.nil_append, List.cons_append, aGuardO_some, aGuard_tt, aGuard_tf, aGuard_ft, aGuard_ff, aGuard_tb, aGuard_fb, aGuard_ts, aGuard_fs, aPick_b, aPick_t, aPick_f, aAlloc_one, aAlloc_flat, aBox_some, aBuild_flat, aInt_add, aBin_add, aInt_sub, aBin_sub, aInt_mul, aBin_mul, aInt_quo, aBin_quo, aInt_rem, aBin_rem, aInt_and, aBin_and, aInt_or, aBin_or, aInt_xor, aBin_xor, aInt_andNot, aBin_andNot, aInt_eql, aBin_eql, aInt_neq, aBin_neq, aInt_lss, aBin_lss, aInt_leq, aBin_leq, aInt_gtr, aBin_gtr, aInt_geq, aBin_geq, aBin_shl, aBin_shr, aShift_shl, aShift_shr, aBin_be1, aBin_bn1, aBin_be2, aBin_bn2, aBin_be3, aBin_bn3, aBin_be4, aBin_bn4, aBin_be5, aBin_bn5, aBin_be6, aBin_bn6, aBin_be7, aBin_bn7, aBin_be8, aBin_bn8, aBin_be9, aBin_bn9, aUn_b, aUn_t, aUn_f, aUn_i, aNil_ptr, aNil_pv, aConv_int, aField_ptr, aField_pv, aIdx_sl, aIdx_prm, aIdx_row, aIdx_drow, aMake_i, aMake_s, aExtr_tup, aLen_ref, aLen_nil, aLen_sl, aLen_prm, aLen_str, aBuildL_some, aBuildS_some, aLoad_1b, aLoad_1d, aLoad_fb, aLoad_fd, aLoad_1p, aLoad_fp, aLoad_ep, aLoad_rr, aLoad_rd, aStore_1, aStore_f, aStore_r, aApp_some, aAppend_nil, aAppend_ref, aSlice_h, aSlice_l, aSlice_lh, aop_slice3, aSlice3_r, aop_field, aFld_agg, aBinW_f, aBinW_t, aWrap_mul, aWrap_add, isW_tmp, isW_mulc, isW_addc, isW_sub, isW_quo, isW_rem, isW_and, isW_or, isW_xor, isW_andNot, isW_shl, isW_shr, isW_eql, isW_neq, isW_lss, isW_leq, isW_gtr, isW_geq, Int.reduceLT, aBinW_dF, aBinW_dT, bc_draw, kregD_at, aopsD_nil, aopsD_plain, aopsD_guard, kontD_at, contD_at, yesD_at, noD_at, splD_bool, splD_undef, splD_skip, splD_int, splD_tt, splD_ff, splD_str, splD_nil, splD_sl, splD_prm, splD_ref, splD_ptr, splD_rp, splD_ep, splD_pv, splD_agg, splD_tup, splD_clo, gD_tt, gD_tf, gD_ft, gD_ff, gD_ts, gD_fs, slotO_some, addTr_nil, addTr_cons, memQ_nil, memQ_cons, clash_nil, clash_cons, regC_none, regC_nil, regC_cons, regR_nil, regR_cons, Int.toNat_zero, Int.toNat_one, rng0, rng1, rng2, rng3, rng4, SC.take, SC.drop, mp_nil, acond_ct, acond_cf, mp_one0, mp_one1, mp_one2, mp_one3, kcall_one, liveB_row, liveB_box, idx, cont, still, dies, lend, lendA, lendDies, snocs, SC.snoc, SC.app, meet, AV.cells, fillA, List.getD_cons_zero, List.getD_cons_succ, List.set_cons_zero, List.set_cons_succ, List.length_singleton, Nat.le_refl, Nat.lt_irrefl, Nat.reduceLT, Nat.reduceLeDiff, Option.map_some, Option.map_none, List.flatMap_nil, List.flatMap_cons, Nat.zero_add, BEq.rfl, kcall_two, mp_two0, mp_two1, mp_two2, mp_two3, mp_two4, aop_makeFunc, plainA, Bool.true_and, sl3, ty3, un3, sl56, ty56, un56, sl85, ty85, un85, sl83, ty83, un83, sl5, ty5, un5, sl2, ty2, un2, sl21, ty21, un21, sl4, ty4, un4, sl9, un9, sl22, ty22, un22, sl55, sl62, sl73, sl77, sl86, ty73, ty39, sl39, ty33, sl33, ty79, sl79, ty67, sl67, inR64, inRu64, inRu32, Try.f67]
  simp only [lensA, lenA, lenSC] at hl
  refine ⟨by omega, fun h => by rw [if_pos h], fun h => by rw [if_neg h]⟩
def lend_laws_szIntS : List Nat := []
def sp_laws_szIntS : List AV → List Bx → (AV → List Bx → Prop) → Prop
  | [.sl none (.ints .i64 xs), .int .i64 n], [], K => (0 ≤ n ∧ n ≤ 9223372036854775807) ∧ K (.int .i64 (if n - xs.length < 0 then -1 else n - xs.length)) []
  | _, _, _ => False
theorem at_laws_szIntS {xs : List Int} {n : Int} {K : AV → List Bx → Prop} : sp_laws_szIntS [.sl none (.ints .i64 xs), .int .i64 n] [] K = ((0 ≤ n ∧ n ≤ 9223372036854775807) ∧ K (.int .i64 (if n - xs.length < 0 then -1 else n - xs.length)) []) := id rfl
theorem ok_laws_szIntS : ∀ args giv K, sp_laws_szIntS args giv K → ∃ r outs, ARuns Try.prog 67 args giv r outs ∧ K r outs := by
  intro args giv K hk
  unfold sp_laws_szIntS at hk
  split at hk
  · obtain ⟨hp1, hk⟩ := hk; exact ⟨_, _, runs_laws_szIntS _ _ hp1, hk⟩
  · exact hk.elim
theorem is_laws_szFamily : FnIs Try.prog 32 12 [.tmp 4] (Try.f32.body.getD .skip) := ⟨⟨Try.f32, by kernel_rfl, by kernel_rfl, by kernel_rfl, by kernel_rfl⟩, by kernel_rfl, by kernel_rfl⟩
def G_laws_szFamily : Gm := (Gm.none.add 67 lend_laws_szIntS sp_laws_szIntS)
theorem G_laws_szFamily_ok : G_laws_szFamily.ok Try.prog := (Gm.add_ok Gm.none_ok ok_laws_szIntS)
theorem gs_laws_szFamily_67 : G_laws_szFamily.sp 67 = sp_laws_szIntS ∧ G_laws_szFamily.lend 67 = lend_laws_szIntS := ⟨rfl, rfl⟩
set_option maxHeartbeats 1000000 in
set_option maxRecDepth 100000 in
theorem runs_laws_szFamily (g : Int) (xs : List Int) (n : Int) (hp1 : 0 ≤ n ∧ n ≤ 9223372036854775807) : ARuns Try.prog 32 [.agg [.int .i64 g, .sl none (.ints .i64 xs)], .int .i64 n] [] (.int .i64 (if n - xs.length < 0 then -1 else n - xs.length)) [] := by
  refine ARuns_bc G_laws_szFamily_ok is_laws_szFamily (by simp) fun hl hlB => ?_
  simp only [kcode_at, kreg_at, bc_skip, bc_seq, bc_cond, bc_block, bc_exit, bc_ret, bc_region, lkX_cons, acond_tmp, aCase_t, aCase_f, aCase_b, afin_nil, cvE_some, resL, resV, resC, cv, cvL, pack, entryE, inPrm, Option.getD_some, acall_clo, add_sp, add_lend, kcall_nil, selOf, selC, selA, inArgs, inA, inL, okA, okL, okBx, okC, outA, outL, outU, outB, deep, deepL, boxIds, AV.bid, List.map_nil, List.map_cons, List.all_nil, List.all_cons, BEq.rfl, Bool.and_true, Bool.true_and, List.append_nil, aops_nil, aops_plain, aops_guard, kont_at, yes_at, no_at, aop_move, aop_assign, aop_pick, aop_alloc, aop_box, aop_build, aop_buildSlice, aop_load, aop_store, aop_nilCheck, aop_binOp, aop_unOp, aop_convert, aop_fieldAddr, aop_indexAddr, aop_slice, aop_extract, aop_makeSlice, aop_len, aop_max, aMax_int, slTy2, SC0, aop_append, aop_call, evalE, getE, putE, getB, setB, St.put, setsB, nth, AV.ofV, AV.blk, AV.bid, AV.one, SC.len, SC.get, List.length_nil, List.length_cons, Nat.reduceEqDiff, Nat.reduceAdd, ↓reduceIte, true_and, and_true, Bool.true_eq_false, Bool.false_eq_true, false_imp_iff, true_imp_iff, decide_eq_true_eq, Bool.not_eq_true', Bool.not_eq_false', decide_eq_false_iff_not, Option.isSome, List.nil_append, List.cons_append, aGuardO_some, aGuard_tt, aGuard_tf, aGuard_ft, aGuard_ff, aGuard_tb, aGuard_fb, aGuard_ts, aGuard_fs, aPick_b, aPick_t, aPick_f, aAlloc_one, aAlloc_flat, aBox_some, aBuild_flat, aInt_add, aBin_add, aInt_sub, aBin_sub, aInt_mul, aBin_mul, aInt_quo, aBin_quo, aInt_rem, aBin_rem, aInt_and, aBin_and, aInt_or, aBin_or, aInt_xor, aBin_xor, aInt_andNot, aBin_andNot, aInt_eql, aBin_eql, aInt_neq, aBin_neq, aInt_lss, aBin_lss, aInt_leq, aBin_leq, aInt_gtr, aBin_gtr, aInt_geq, aBin_geq, aBin_shl, aBin_shr, aShift_shl, aShift_shr, aBin_be1, aBin_bn1, aBin_be2, aBin_bn2, aBin_be3, aBin_bn3, aBin_be4, aBin_bn4, aBin_be5, aBin_bn5, aBin_be6, aBin_bn6, aBin_be7, aBin_bn7, aBin_be8, aBin_bn8, aBin_be9, aBin_bn9, aUn_b, aUn_t, aUn_f, aUn_i, aNil_ptr, aNil_pv, aConv_int, aField_ptr, aField_pv, aIdx_sl, aIdx_prm, aIdx_row, aIdx_drow, aMake_i, aMake_s, aExtr_tup, aLen_ref, aLen_nil, aLen_sl, aLen_prm, aLen_str, aBuildL_some, aBuildS_some, aLoad_1b, aLoad_1d, aLoad_fb, aLoad_fd, aLoad_1p, aLoad_fp, aLoad_ep, aLoad_rr, aLoad_rd, aStore_1, aStore_f, aStore_r, aApp_some, aAppend_nil, aAppend_ref, aSlice_h, aSlice_l, aSlice_lh, aop_slice3, aSlice3_r, aop_field, aFld_agg, aBinW_f, aBinW_t, aWrap_mul, aWrap_add, isW_tmp, isW_mulc, isW_addc, isW_sub, isW_quo, isW_rem, isW_and, isW_or, isW_xor, isW_andNot, isW_shl, isW_shr, isW_eql, isW_neq, isW_lss, isW_leq, isW_gtr, isW_geq, Int.reduceLT, aBinW_dF, aBinW_dT, bc_draw, kregD_at, aopsD_nil, aopsD_plain, aopsD_guard, kontD_at, contD_at, yesD_at, noD_at, splD_bool, splD_undef, splD_skip, splD_int, splD_tt, splD_ff, splD_str, splD_nil, splD_sl, splD_prm, splD_ref, splD_ptr, splD_rp, splD_ep, splD_pv, splD_agg, splD_tup, splD_clo, gD_tt, gD_tf, gD_ft, gD_ff, gD_ts, gD_fs, slotO_some, addTr_nil, addTr_cons, memQ_nil, memQ_cons, clash_nil, clash_cons, regC_none, regC_nil, regC_cons, regR_nil, regR_cons, Int.toNat_zero, Int.toNat_one, rng0, rng1, rng2, rng3, rng4, SC.take, SC.drop, mp_nil, acond_ct, acond_cf, mp_one0, mp_one1, mp_one2, mp_one3, kcall_one, liveB_row, liveB_box, idx, cont, still, dies, lend, lendA, lendDies, snocs, SC.snoc, SC.app, meet, AV.cells, fillA, List.getD_cons_zero, List.getD_cons_succ, List.set_cons_zero, List.set_cons_succ, List.length_singleton, Nat.le_refl, Nat.lt_irrefl, Nat.reduceLT, Nat.reduceLeDiff, Option.map_some, Option.map_none, List.flatMap_nil, List.flatMap_cons, Nat.zero_add, BEq.rfl, kcall_two, mp_two0, mp_two1, mp_two2, mp_two3, mp_two4, aop_makeFunc, plainA, Bool.true_and, sl3, ty3, un3, sl56, ty56, un56, sl85, ty85, un85, sl83, ty83, un83, sl5, ty5, un5, sl2, ty2, un2, sl21, ty21, un21, sl4, ty4, un4, sl9, un9, sl22, ty22, un22, sl55, sl62, sl73, sl77, sl86, ty73, ty39, sl39, ty33, sl33, ty79, sl79, ty67, sl67, inR64, inRu64, inRu32, gs_laws_szFamily_67, at_laws_szIntS, lend_laws_szIntS, Try.f32]
  refine ⟨hp1, fun h => ?_, fun h => trivial⟩
  by_cases h0 : n - xs.length < 0
  · rw [if_pos h0]
  · rw [if_neg h0] at h; omega
def lend_laws_szFamily : List Nat := []
def sp_laws_szFamily : List AV → List Bx → (AV → List Bx → Prop) → Prop
  | [.agg [.int .i64 g, .sl none (.ints .i64 xs)], .int .i64 n], [], K => (0 ≤ n ∧ n ≤ 9223372036854775807) ∧ K (.int .i64 (if n - xs.length < 0 then -1 else n - xs.length)) []
  | _, _, _ => False
theorem at_laws_szFamily {g : Int} {xs : List Int} {n : Int} {K : AV → List Bx → Prop} : sp_laws_szFamily [.agg [.int .i64 g, .sl none (.ints .i64 xs)], .int .i64 n] [] K = ((0 ≤ n ∧ n ≤ 9223372036854775807) ∧ K (.int .i64 (if n - xs.length < 0 then -1 else n - xs.length)) []) := id rfl
theorem ok_laws_szFamily : ∀ args giv K, sp_laws_szFamily args giv K → ∃ r outs, ARuns Try.prog 32 args giv r outs ∧ K r outs := by
  intro args giv K hk
  unfold sp_laws_szFamily at hk
  split at hk
  · obtain ⟨hp1, hk⟩ := hk; exact ⟨_, _, runs_laws_szFamily _ _ _ hp1, hk⟩
  · exact hk.elim
theorem is_spec_l1In : FnIs Try.prog 57 15 [.tmp 6] (Try.f57.body.getD .skip) := ⟨⟨Try.f57, by kernel_rfl, by kernel_rfl, by kernel_rfl, by kernel_rfl⟩, by kernel_rfl, by kernel_rfl⟩
def G_spec_l1In : Gm := Gm.none
theorem G_spec_l1In_ok : G_spec_l1In.ok Try.prog := Gm.none_ok
set_option maxHeartbeats 1000000 in
set_option maxRecDepth 100000 in
theorem runs_spec_l1In (n l m : Int) : ARuns Try.prog 57 [.int .i64 n, .int .i64 l, .int .i64 m] [] (.bool (inB n l m)) [] := by
  refine ARuns_bc G_spec_l1In_ok is_spec_l1In (by simp) fun hl hlB => ?_
  simp only [kcode_at, kreg_at, bc_skip, bc_seq, bc_cond, bc_block, bc_exit, bc_ret, bc_region, lkX_cons, acond_tmp, aCase_t, aCase_f, aCase_b, afin_nil, cvE_some, resL, resV, resC, cv, cvL, pack, entryE, inPrm, Option.getD_some, acall_clo, add_sp, add_lend, kcall_nil, selOf, selC, selA, inArgs, inA, inL, okA, okL, okBx, okC, outA, outL, outU, outB, deep, deepL, boxIds, AV.bid, List.map_nil, List.map_cons, List.all_nil, List.all_cons, BEq.rfl, Bool.and_true, Bool.true_and, List.append_nil, aops_nil, aops_plain, aops_guard, kont_at, yes_at, no_at, aop_move, aop_assign, aop_pick, aop_alloc, aop_box, aop_build, aop_buildSlice, aop_load, aop_store, aop_nilCheck, aop_binOp, aop_unOp, aop_convert, aop_fieldAddr, aop_indexAddr, aop_slice, aop_extract, aop_makeSlice, aop_len, aop_max, aMax_int, slTy2, SC0, aop_append, aop_call, evalE, getE, putE, getB, setB, St.put, setsB, nth, AV.ofV, AV.blk, AV.bid, AV.one, SC.len, SC.get, List.length_nil, List.length_cons, Nat.reduceEqDiff, Nat.reduceAdd, ↓reduceIte, true_and, and_true, Bool.true_eq_false, Bool.false_eq_true, false_imp_iff, true_imp_iff, decide_eq_true_eq, Bool.not_eq_true', Bool.not_eq_false', decide_eq_false_iff_not, Option.isSome, List.nil_append, List.cons_append, aGuardO_some, aGuard_tt, aGuard_tf, aGuard_ft, aGuard_ff, aGuard_tb, aGuard_fb, aGuard_ts, aGuard_fs, aPick_b, aPick_t, aPick_f, aAlloc_one, aAlloc_flat, aBox_some, aBuild_flat, aInt_add, aBin_add, aInt_sub, aBin_sub, aInt_mul, aBin_mul, aInt_quo, aBin_quo, aInt_rem, aBin_rem, aInt_and, aBin_and, aInt_or, aBin_or, aInt_xor, aBin_xor, aInt_andNot, aBin_andNot, aInt_eql, aBin_eql, aInt_neq, aBin_neq, aInt_lss, aBin_lss, aInt_leq, aBin_leq, aInt_gtr, aBin_gtr, aInt_geq, aBin_geq, aBin_shl, aBin_shr, aShift_shl, aShift_shr, aBin_be1, aBin_bn1, aBin_be2, aBin_bn2, aBin_be3, aBin_bn3, aBin_be4, aBin_bn4, aBin_be5, aBin_bn5, aBin_be6, aBin_bn6, aBin_be7, aBin_bn7, aBin_be8, aBin_bn8, aBin_be9, aBin_bn9, aUn_b, aUn_t, aUn_f, aUn_i, aNil_ptr, aNil_pv, aConv_int, aField_ptr, aField_pv, aIdx_sl, aIdx_prm, aIdx_row, aIdx_drow, aMake_i, aMake_s, aExtr_tup, aLen_ref, aLen_nil, aLen_sl, aLen_prm, aLen_str, aBuildL_some, aBuildS_some, aLoad_1b, aLoad_1d, aLoad_fb, aLoad_fd, aLoad_1p, aLoad_fp, aLoad_ep, aLoad_rr, aLoad_rd, aStore_1, aStore_f, aStore_r, aApp_some, aAppend_nil, aAppend_ref, aSlice_h, aSlice_l, aSlice_lh, aop_slice3, aSlice3_r, aop_field, aFld_agg, aBinW_f, aBinW_t, aWrap_mul, aWrap_add, isW_tmp, isW_mulc, isW_addc, isW_sub, isW_quo, isW_rem, isW_and, isW_or, isW_xor, isW_andNot, isW_shl, isW_shr, isW_eql, isW_neq, isW_lss, isW_leq, isW_gtr, isW_geq, Int.reduceLT, aBinW_dF, aBinW_dT, bc_draw, kregD_at, aopsD_nil, aopsD_plain, aopsD_guard, kontD_at, contD_at, yesD_at, noD_at, splD_bool, splD_undef, splD_skip, splD_int, splD_tt, splD_ff, splD_str, splD_nil, splD_sl, splD_prm, splD_ref, splD_ptr, splD_rp, splD_ep, splD_pv, splD_agg, splD_tup, splD_clo, gD_tt, gD_tf, gD_ft, gD_ff, gD_ts, gD_fs, slotO_some, addTr_nil, addTr_cons, memQ_nil, memQ_cons, clash_nil, clash_cons, regC_none, regC_nil, regC_cons, regR_nil, regR_cons, Int.toNat_zero, Int.toNat_one, rng0, rng1, rng2, rng3, rng4, SC.take, SC.drop, mp_nil, acond_ct, acond_cf, mp_one0, mp_one1, mp_one2, mp_one3, kcall_one, liveB_row, liveB_box, idx, cont, still, dies, lend, lendA, lendDies, snocs, SC.snoc, SC.app, meet, AV.cells, fillA, List.getD_cons_zero, List.getD_cons_succ, List.set_cons_zero, List.set_cons_succ, List.length_singleton, Nat.le_refl, Nat.lt_irrefl, Nat.reduceLT, Nat.reduceLeDiff, Option.map_some, Option.map_none, List.flatMap_nil, List.flatMap_cons, Nat.zero_add, BEq.rfl, kcall_two, mp_two0, mp_two1, mp_two2, mp_two3, mp_two4, aop_makeFunc, plainA, Bool.true_and, sl3, ty3, un3, sl56, ty56, un56, sl85, ty85, un85, sl83, ty83, un83, sl5, ty5, un5, sl2, ty2, un2, sl21, ty21, un21, sl4, ty4, un4, sl9, un9, sl22, ty22, un22, sl55, sl62, sl73, sl77, sl86, ty73, ty39, sl39, ty33, sl33, ty79, sl79, ty67, sl67, inR64, inRu64, inRu32, Try.f57]
  refine ⟨fun h => ?_, fun h => ?_⟩ <;> simp [h, inB]
def lend_spec_l1In : List Nat := []
def sp_spec_l1In : List AV → List Bx → (AV → List Bx → Prop) → Prop
  | [.int .i64 n, .int .i64 l, .int .i64 m], [], K => K (.bool (inB n l m)) []
  | _, _, _ => False
theorem at_spec_l1In {n l m : Int} {K : AV → List Bx → Prop} : sp_spec_l1In [.int .i64 n, .int .i64 l, .int .i64 m] [] K = (K (.bool (inB n l m)) []) := id rfl
theorem ok_spec_l1In : ∀ args giv K, sp_spec_l1In args giv K → ∃ r outs, ARuns Try.prog 57 args giv r outs ∧ K r outs := by
  intro args giv K hk
  unfold sp_spec_l1In at hk
  split at hk
  · exact ⟨_, _, runs_spec_l1In _ _ _ , hk⟩
  · exact hk.elim
theorem is_spec_l2Full : FnIs Try.prog 87 6 [.tmp 2] (Try.f87.body.getD .skip) := ⟨⟨Try.f87, by kernel_rfl, by kernel_rfl, by kernel_rfl, by kernel_rfl⟩, by kernel_rfl, by kernel_rfl⟩
def G_spec_l2Full : Gm := Gm.none
theorem G_spec_l2Full_ok : G_spec_l2Full.ok Try.prog := Gm.none_ok
set_option maxHeartbeats 1000000 in
set_option maxRecDepth 100000 in
theorem runs_spec_l2Full (n : Int) (hp1 : 0 ≤ n ∧ n ≤ 10) : ARuns Try.prog 87 [.int .i64 n] [] (.int .i64 (fullI n)) [] := by
  refine ARuns_bc G_spec_l2Full_ok is_spec_l2Full (by simp) fun hl hlB => ?_
  simp only [kcode_at, kreg_at, bc_skip, bc_seq, bc_cond, bc_block, bc_exit, bc_ret, bc_region, lkX_cons, acond_tmp, aCase_t, aCase_f, aCase_b, afin_nil, cvE_some, resL, resV, resC, cv, cvL, pack, entryE, inPrm, Option.getD_some, acall_clo, add_sp, add_lend, kcall_nil, selOf, selC, selA, inArgs, inA, inL, okA, okL, okBx, okC, outA, outL, outU, outB, deep, deepL, boxIds, AV.bid, List.map_nil, List.map_cons, List.all_nil, List.all_cons, BEq.rfl, Bool.and_true, Bool.true_and, List.append_nil, aops_nil, aops_plain, aops_guard, kont_at, yes_at, no_at, aop_move, aop_assign, aop_pick, aop_alloc, aop_box, aop_build, aop_buildSlice, aop_load, aop_store, aop_nilCheck, aop_binOp, aop_unOp, aop_convert, aop_fieldAddr, aop_indexAddr, aop_slice, aop_extract, aop_makeSlice, aop_len, aop_max, aMax_int, slTy2, SC0, aop_append, aop_call, evalE, getE, putE, getB, setB, St.put, setsB, nth, AV.ofV, AV.blk, AV.bid, AV.one, SC.len, SC.get, List.length_nil, List.length_cons, Nat.reduceEqDiff, Nat.reduceAdd, ↓reduceIte, true_and, and_true, Bool.true_eq_false, Bool.false_eq_true, false_imp_iff, true_imp_iff, decide_eq_true_eq, Bool.not_eq_true', Bool.not_eq_false', decide_eq_false_iff_not, Option.isSome, List.nil_append, List.cons_append, aGuardO_some, aGuard_tt, aGuard_tf, aGuard_ft, aGuard_ff, aGuard_tb, aGuard_fb, aGuard_ts, aGuard_fs, aPick_b, aPick_t, aPick_f, aAlloc_one, aAlloc_flat, aBox_some, aBuild_flat, aInt_add, aBin_add, aInt_sub, aBin_sub, aInt_mul, aBin_mul, aInt_quo, aBin_quo, aInt_rem, aBin_rem, aInt_and, aBin_and, aInt_or, aBin_or, aInt_xor, aBin_xor, aInt_andNot, aBin_andNot, aInt_eql, aBin_eql, aInt_neq, aBin_neq, aInt_lss, aBin_lss, aInt_leq, aBin_leq, aInt_gtr, aBin_gtr, aInt_geq, aBin_geq, aBin_shl, aBin_shr, aShift_shl, aShift_shr, aBin_be1, aBin_bn1, aBin_be2, aBin_bn2, aBin_be3, aBin_bn3, aBin_be4, aBin_bn4, aBin_be5, aBin_bn5, aBin_be6, aBin_bn6, aBin_be7, aBin_bn7, aBin_be8, aBin_bn8, aBin_be9, aBin_bn9, aUn_b, aUn_t, aUn_f, aUn_i, aNil_ptr, aNil_pv, aConv_int, aField_ptr, aField_pv, aIdx_sl, aIdx_prm, aIdx_row, aIdx_drow, aMake_i, aMake_s, aExtr_tup, aLen_ref, aLen_nil, aLen_sl, aLen_prm, aLen_str, aBuildL_some, aBuildS_some, aLoad_1b, aLoad_1d, aLoad_fb, aLoad_fd, aLoad_1p, aLoad_fp, aLoad_ep, aLoad_rr, aLoad_rd, aStore_1, aStore_f, aStore_r, aApp_some, aAppend_nil, aAppend_ref, aSlice_h, aSlice_l, aSlice_lh, aop_slice3, aSlice3_r, aop_field, aFld_agg, aBinW_f, aBinW_t, aWrap_mul, aWrap_add, isW_tmp, isW_mulc, isW_addc, isW_sub, isW_quo, isW_rem, isW_and, isW_or, isW_xor, isW_andNot, isW_shl, isW_shr, isW_eql, isW_neq, isW_lss, isW_leq, isW_gtr, isW_geq, Int.reduceLT, aBinW_dF, aBinW_dT, bc_draw, kregD_at, aopsD_nil, aopsD_plain, aopsD_guard, kontD_at, contD_at, yesD_at, noD_at, splD_bool, splD_undef, splD_skip, splD_int, splD_tt, splD_ff, splD_str, splD_nil, splD_sl, splD_prm, splD_ref, splD_ptr, splD_rp, splD_ep, splD_pv, splD_agg, splD_tup, splD_clo, gD_tt, gD_tf, gD_ft, gD_ff, gD_ts, gD_fs, slotO_some, addTr_nil, addTr_cons, memQ_nil, memQ_cons, clash_nil, clash_cons, regC_none, regC_nil, regC_cons, regR_nil, regR_cons, Int.toNat_zero, Int.toNat_one, rng0, rng1, rng2, rng3, rng4, SC.take, SC.drop, mp_nil, acond_ct, acond_cf, mp_one0, mp_one1, mp_one2, mp_one3, kcall_one, liveB_row, liveB_box, idx, cont, still, dies, lend, lendA, lendDies, snocs, SC.snoc, SC.app, meet, AV.cells, fillA, List.getD_cons_zero, List.getD_cons_succ, List.set_cons_zero, List.set_cons_succ, List.length_singleton, Nat.le_refl, Nat.lt_irrefl, Nat.reduceLT, Nat.reduceLeDiff, Option.map_some, Option.map_none, List.flatMap_nil, List.flatMap_cons, Nat.zero_add, BEq.rfl, kcall_two, mp_two0, mp_two1, mp_two2, mp_two3, mp_two4, aop_makeFunc, plainA, Bool.true_and, sl3, ty3, un3, sl56, ty56, un56, sl85, ty85, un85, sl83, ty83, un83, sl5, ty5, un5, sl2, ty2, un2, sl21, ty21, un21, sl4, ty4, un4, sl9, un9, sl22, ty22, un22, sl55, sl62, sl73, sl77, sl86, ty73, ty39, sl39, ty33, sl33, ty79, sl79, ty67, sl67, inR64, inRu64, inRu32, Try.f87]
  have h := full_bd hp1
  have e : 1 * 2 ^ n.toNat - 1 = fullI n := by unfold fullI; omega
  have e2 : (1 : Int) * 2 ^ n.toNat = fullI n + 1 := by omega
  simp only [IntKind.bits]
  rw [e, e2]
  (repeat' (first | apply And.intro | intro _)) <;> try (first | omega | trivial)
def lend_spec_l2Full : List Nat := []
def sp_spec_l2Full : List AV → List Bx → (AV → List Bx → Prop) → Prop
  | [.int .i64 n], [], K => (0 ≤ n ∧ n ≤ 10) ∧ K (.int .i64 (fullI n)) []
  | _, _, _ => False
theorem at_spec_l2Full {n : Int} {K : AV → List Bx → Prop} : sp_spec_l2Full [.int .i64 n] [] K = ((0 ≤ n ∧ n ≤ 10) ∧ K (.int .i64 (fullI n)) []) := id rfl
theorem ok_spec_l2Full : ∀ args giv K, sp_spec_l2Full args giv K → ∃ r outs, ARuns Try.prog 87 args giv r outs ∧ K r outs := by
  intro args giv K hk
  unfold sp_spec_l2Full at hk
  split at hk
  · obtain ⟨hp1, hk⟩ := hk; exact ⟨_, _, runs_spec_l2Full _ hp1, hk⟩
  · exact hk.elim
theorem is_spec_IsFamily : FnIs Try.prog 68 43 [.tmp 2] (Try.f68.body.getD .skip) := ⟨⟨Try.f68, by kernel_rfl, by kernel_rfl, by kernel_rfl, by kernel_rfl⟩, by kernel_rfl, by kernel_rfl⟩
def G_spec_IsFamily : Gm := ((Gm.none.add 57 lend_spec_l1In sp_spec_l1In).add 87 lend_spec_l2Full sp_spec_l2Full)
theorem G_spec_IsFamily_ok : G_spec_IsFamily.ok Try.prog := (Gm.add_ok (Gm.add_ok Gm.none_ok ok_spec_l1In) ok_spec_l2Full)
theorem gs_spec_IsFamily_57 : G_spec_IsFamily.sp 57 = sp_spec_l1In ∧ G_spec_IsFamily.lend 57 = lend_spec_l1In := ⟨rfl, rfl⟩
theorem gs_spec_IsFamily_87 : G_spec_IsFamily.sp 87 = sp_spec_l2Full ∧ G_spec_IsFamily.lend 87 = lend_spec_l2Full := ⟨rfl, rfl⟩
set_option maxHeartbeats 1000000 in
set_option maxRecDepth 100000 in
theorem runs_spec_IsFamily (n : Int) (xs : List Int) : ARuns Try.prog 68 [.agg [.int .i64 n, .sl none (.ints .i64 xs)]] [] (.bool (famB n xs)) [] := by
  refine ARuns_bc G_spec_IsFamily_ok is_spec_IsFamily (by simp) fun hl hlB => ?_
  simp only [kcode_at, kreg_at, bc_skip, bc_seq, bc_cond, bc_block, bc_exit, bc_ret, bc_region, lkX_cons, acond_tmp, aCase_t, aCase_f, aCase_b, afin_nil, cvE_some, resL, resV, resC, cv, cvL, pack, entryE, inPrm, Option.getD_some, acall_clo, add_sp, add_lend, kcall_nil, selOf, selC, selA, inArgs, inA, inL, okA, okL, okBx, okC, outA, outL, outU, outB, deep, deepL, boxIds, AV.bid, List.map_nil, List.map_cons, List.all_nil, List.all_cons, BEq.rfl, Bool.and_true, Bool.true_and, List.append_nil, aops_nil, aops_plain, aops_guard, kont_at, yes_at, no_at, aop_move, aop_assign, aop_pick, aop_alloc, aop_box, aop_build, aop_buildSlice, aop_load, aop_store, aop_nilCheck, aop_binOp, aop_unOp, aop_convert, aop_fieldAddr, aop_indexAddr, aop_slice, aop_extract, aop_makeSlice, aop_len, aop_max, aMax_int, slTy2, SC0, aop_append, aop_call, evalE, getE, putE, getB, setB, St.put, setsB, nth, AV.ofV, AV.blk, AV.bid, AV.one, SC.len, SC.get, List.length_nil, List.length_cons, Nat.reduceEqDiff, Nat.reduceAdd, ↓reduceIte, true_and, and_true, Bool.true_eq_false, Bool.false_eq_true, false_imp_iff, true_imp_iff, decide_eq_true_eq, Bool.not_eq_true', Bool.not_eq_false', decide_eq_false_iff_not, Option.isSome, List.nil_append, List.cons_append, aGuardO_some, aGuard_tt, aGuard_tf, aGuard_ft, aGuard_ff, aGuard_tb, aGuard_fb, aGuard_ts, aGuard_fs, aPick_b, aPick_t, aPick_f, aAlloc_one, aAlloc_flat, aBox_some, aBuild_flat, aInt_add, aBin_add, aInt_sub, aBin_sub, aInt_mul, aBin_mul, aInt_quo, aBin_quo, aInt_rem, aBin_rem, aInt_and, aBin_and, aInt_or, aBin_or, aInt_xor, aBin_xor, aInt_andNot, aBin_andNot, aInt_eql, aBin_eql, aInt_neq, aBin_neq, aInt_lss, aBin_lss, aInt_leq, aBin_leq, aInt_gtr, aBin_gtr, aInt_geq, aBin_geq, aBin_shl, aBin_shr, aShift_shl, aShift_shr, aBin_be1, aBin_bn1, aBin_be2, aBin_bn2, aBin_be3, aBin_bn3, aBin_be4, aBin_bn4, aBin_be5, aBin_bn5, aBin_be6, aBin_bn6, aBin_be7, aBin_bn7, aBin_be8, aBin_bn8, aBin_be9, aBin_bn9, aUn_b, aUn_t, aUn_f, aUn_i, aNil_ptr, aNil_pv, aConv_int, aField_ptr, aField_pv, aIdx_sl, aIdx_prm, aIdx_row, aIdx_drow, aMake_i, aMake_s, aExtr_tup, aLen_ref, aLen_nil, aLen_sl, aLen_prm, aLen_str, aBuildL_some, aBuildS_some, aLoad_1b, aLoad_1d, aLoad_fb, aLoad_fd, aLoad_1p, aLoad_fp, aLoad_ep, aLoad_rr, aLoad_rd, aStore_1, aStore_f, aStore_r, aApp_some, aAppend_nil, aAppend_ref, aSlice_h, aSlice_l, aSlice_lh, aop_slice3, aSlice3_r, aop_field, aFld_agg, aBinW_f, aBinW_t, aWrap_mul, aWrap_add, isW_tmp, isW_mulc, isW_addc, isW_sub, isW_quo, isW_rem, isW_and, isW_or, isW_xor, isW_andNot, isW_shl, isW_shr, isW_eql, isW_neq, isW_lss, isW_leq, isW_gtr, isW_geq, Int.reduceLT, aBinW_dF, aBinW_dT, bc_draw, kregD_at, aopsD_nil, aopsD_plain, aopsD_guard, kontD_at, contD_at, yesD_at, noD_at, splD_bool, splD_undef, splD_skip, splD_int, splD_tt, splD_ff, splD_str, splD_nil, splD_sl, splD_prm, splD_ref, splD_ptr, splD_rp, splD_ep, splD_pv, splD_agg, splD_tup, splD_clo, gD_tt, gD_tf, gD_ft, gD_ff, gD_ts, gD_fs, slotO_some, addTr_nil, addTr_cons, memQ_nil, memQ_cons, clash_nil, clash_cons, regC_none, regC_nil, regC_cons, regR_nil, regR_cons, Int.toNat_zero, Int.toNat_one, rng0, rng1, rng2, rng3, rng4, SC.take, SC.drop, mp_nil, acond_ct, acond_cf, mp_one0, mp_one1, mp_one2, mp_one3, kcall_one, liveB_row, liveB_box, idx, cont, still, dies, lend, lendA, lendDies, snocs, SC.snoc, SC.app, meet, AV.cells, fillA, List.getD_cons_zero, List.getD_cons_succ, List.set_cons_zero, List.set_cons_succ, List.length_singleton, Nat.le_refl, Nat.lt_irrefl, Nat.reduceLT, Nat.reduceLeDiff, Option.map_some, Option.map_none, List.flatMap_nil, List.flatMap_cons, Nat.zero_add, BEq.rfl, kcall_two, mp_two0, mp_two1, mp_two2, mp_two3, mp_two4, aop_makeFunc, plainA, Bool.true_and, sl3, ty3, un3, sl56, ty56, un56, sl85, ty85, un85, sl83, ty83, un83, sl5, ty5, un5, sl2, ty2, un2, sl21, ty21, un21, sl4, ty4, un4, sl9, un9, sl22, ty22, un22, sl55, sl62, sl73, sl77, sl86, ty73, ty39, sl39, ty33, sl33, ty79, sl79, ty67, sl67, inR64, inRu64, inRu32, gs_spec_IsFamily_57, at_spec_l1In, lend_spec_l1In, gs_spec_IsFamily_87, at_spec_l2Full, lend_spec_l2Full, Try.f68]
  simp only [lensA, lenA, lenSC] at hl
  refine ⟨fun h => by rw [famB, setsOk, h]; rfl, fun hn => ?_⟩
  have hb := hn
  rw [inB_t] at hb
  refine bc_loop (fun i : Nat => i ≤ xs.length ∧ (∀ k, k < i → inS n (xs.getD k 0) = true) ∧ ∀ k, k < i → ascAt xs k = true)
    (fun i => ⟨[(1, .ptr 0 0), (3, .int .i64 i)], [.box [.int .i64 n, .sl none (.ints .i64 xs)]]⟩) (fun i => xs.length - i)
    [1, 3] [0] 0 rfl (by simp [St.conv, St.bf, getE, putE, getB, cv, cvL, cvB, idx, still, pack, lifts, liftOne, cellsOfB, setB]) (by simp) fun i ⟨h1, h2, h3⟩ => ?_
  simp only [kcode_at, kreg_at, bc_skip, bc_seq, bc_cond, bc_block, bc_exit, bc_ret, bc_region, lkX_cons, acond_tmp, aCase_t, aCase_f, aCase_b, afin_nil, cvE_some, resL, resV, resC, cv, cvL, pack, entryE, inPrm, Option.getD_some, acall_clo, add_sp, add_lend, kcall_nil, selOf, selC, selA, inArgs, inA, inL, okA, okL, okBx, okC, outA, outL, outU, outB, deep, deepL, boxIds, AV.bid, List.map_nil, List.map_cons, List.all_nil, List.all_cons, BEq.rfl, Bool.and_true, Bool.true_and, List.append_nil, aops_nil, aops_plain, aops_guard, kont_at, yes_at, no_at, aop_move, aop_assign, aop_pick, aop_alloc, aop_box, aop_build, aop_buildSlice, aop_load, aop_store, aop_nilCheck, aop_binOp, aop_unOp, aop_convert, aop_fieldAddr, aop_indexAddr, aop_slice, aop_extract, aop_makeSlice, aop_len, aop_max, aMax_int, slTy2, SC0, aop_append, aop_call, evalE, getE, putE, getB, setB, St.put, setsB, nth, AV.ofV, AV.blk, AV.bid, AV.one, SC.len, SC.get, List.length_nil, List.length_cons, Nat.reduceEqDiff, Nat.reduceAdd, ↓reduceIte, true_and, and_true, Bool.true_eq_false, Bool.false_eq_true, false_imp_iff, true_imp_iff, decide_eq_true_eq, Bool.not_eq_true', Bool.not_eq_false', decide_eq_false_iff_not, Option.isSome, List.nil_append, List.cons_append, aGuardO_some, aGuard_tt, aGuard_tf, aGuard_ft, aGuard_ff, aGuard_tb, aGuard_fb, aGuard_ts, aGuard_fs, aPick_b, aPick_t, aPick_f, aAlloc_one, aAlloc_flat, aBox_some, aBuild_flat, aInt_add, aBin_add, aInt_sub, aBin_sub, aInt_mul, aBin_mul, aInt_quo, aBin_quo, aInt_rem, aBin_rem, aInt_and, aBin_and, aInt_or, aBin_or, aInt_xor, aBin_xor, aInt_andNot, aBin_andNot, aInt_eql, aBin_eql, aInt_neq, aBin_neq, aInt_lss, aBin_lss, aInt_leq, aBin_leq, aInt_gtr, aBin_gtr, aInt_geq, aBin_geq, aBin_shl, aBin_shr, aShift_shl, aShift_shr, aBin_be1, aBin_bn1, aBin_be2, aBin_bn2, aBin_be3, aBin_bn3, aBin_be4, aBin_bn4, aBin_be5, aBin_bn5, aBin_be6, aBin_bn6, aBin_be7, aBin_bn7, aBin_be8, aBin_bn8, aBin_be9, aBin_bn9, aUn_b, aUn_t, aUn_f, aUn_i, aNil_ptr, aNil_pv, aConv_int, aField_ptr, aField_pv, aIdx_sl, aIdx_prm, aIdx_row, aIdx_drow, aMake_i, aMake_s, aExtr_tup, aLen_ref, aLen_nil, aLen_sl, aLen_prm, aLen_str, aBuildL_some, aBuildS_some, aLoad_1b, aLoad_1d, aLoad_fb, aLoad_fd, aLoad_1p, aLoad_fp, aLoad_ep, aLoad_rr, aLoad_rd, aStore_1, aStore_f, aStore_r, aApp_some, aAppend_nil, aAppend_ref, aSlice_h, aSlice_l, aSlice_lh, aop_slice3, aSlice3_r, aop_field, aFld_agg, aBinW_f, aBinW_t, aWrap_mul, aWrap_add, isW_tmp, isW_mulc, isW_addc, isW_sub, isW_quo, isW_rem, isW_and, isW_or, isW_xor, isW_andNot, isW_shl, isW_shr, isW_eql, isW_neq, isW_lss, isW_leq, isW_gtr, isW_geq, Int.reduceLT, aBinW_dF, aBinW_dT, bc_draw, kregD_at, aopsD_nil, aopsD_plain, aopsD_guard, kontD_at, contD_at, yesD_at, noD_at, splD_bool, splD_undef, splD_skip, splD_int, splD_tt, splD_ff, splD_str, splD_nil, splD_sl, splD_prm, splD_ref, splD_ptr, splD_rp, splD_ep, splD_pv, splD_agg, splD_tup, splD_clo, gD_tt, gD_tf, gD_ft, gD_ff, gD_ts, gD_fs, slotO_some, addTr_nil, addTr_cons, memQ_nil, memQ_cons, clash_nil, clash_cons, regC_none, regC_nil, regC_cons, regR_nil, regR_cons, Int.toNat_zero, Int.toNat_one, rng0, rng1, rng2, rng3, rng4, SC.take, SC.drop, mp_nil, acond_ct, acond_cf, mp_one0, mp_one1, mp_one2, mp_one3, kcall_one, liveB_row, liveB_box, idx, cont, still, dies, lend, lendA, lendDies, snocs, SC.snoc, SC.app, meet, AV.cells, fillA, List.getD_cons_zero, List.getD_cons_succ, List.set_cons_zero, List.set_cons_succ, List.length_singleton, Nat.le_refl, Nat.lt_irrefl, Nat.reduceLT, Nat.reduceLeDiff, Option.map_some, Option.map_none, List.flatMap_nil, List.flatMap_cons, Nat.zero_add, BEq.rfl, kcall_two, mp_two0, mp_two1, mp_two2, mp_two3, mp_two4, aop_makeFunc, plainA, Bool.true_and, sl3, ty3, un3, sl56, ty56, un56, sl85, ty85, un85, sl83, ty83, un83, sl5, ty5, un5, sl2, ty2, un2, sl21, ty21, un21, sl4, ty4, un4, sl9, un9, sl22, ty22, un22, sl55, sl62, sl73, sl77, sl86, ty73, ty39, sl39, ty33, sl33, ty79, sl79, ty67, sl67, inR64, inRu64, inRu32, gs_spec_IsFamily_57, at_spec_l1In, lend_spec_l1In, gs_spec_IsFamily_87, at_spec_l2Full, lend_spec_l2Full, Int.toNat_natCast]
  have e0 : ((i : Int) - 1).toNat = i - 1 := by omega
  rw [e0]
  have no1 : i < xs.length → inS n (xs.getD i 0) = false → famB n xs = false := fun hi hf => by rw [famB, setsOk, allN_f i hi hf]; simp
  have no2 : i < xs.length → ¬ ascAt xs i = true → famB n xs = false := fun hi hf => by rw [famB, allN_f i hi (by simpa using hf)]; simp
  have nx : i < xs.length → inS n (xs.getD i 0) = true → ascAt xs i = true → i + 1 ≤ xs.length ∧ (∀ k, k < i + 1 → inS n (xs.getD k 0) = true) ∧ ∀ k, k < i + 1 → ascAt xs k = true := fun a b c => ⟨by omega, upto_succ h2 b, upto_succ h3 c⟩
  refine ⟨fun hi => ⟨by omega, by omega, fun hs => ⟨fun h0 => ⟨by omega, by omega, by omega, fun hle => ?_, fun hle => ⟨by omega, ?_⟩⟩, fun h0 => ⟨by omega, ?_⟩⟩, fun hs => ?_⟩, fun hi => ?_⟩
  · rw [no2 (by omega) (by rw [ascAt_iff]; omega)]
  · exact klp_of (i + 1) (by simp [St.conv, St.bf, getE, putE, getB, cv, cvL, cvB, idx, still, pack, lifts, liftOne, cellsOfB, setB]) (nx (by omega) hs (by rw [ascAt_iff]; omega)) (by omega)
  · exact klp_of (i + 1) (by simp [St.conv, St.bf, getE, putE, getB, cv, cvL, cvB, idx, still, pack, lifts, liftOne, cellsOfB, setB]) (nx (by omega) hs (by rw [ascAt_iff]; omega)) (by omega)
  · rw [no1 (by omega) hs]
  · have : i = xs.length := by omega
    subst this
    rw [famB, setsOk, hn, allN_t h2, allN_t h3]; rfl
def lend_spec_IsFamily : List Nat := []
def sp_spec_IsFamily : List AV → List Bx → (AV → List Bx → Prop) → Prop
  | [.agg [.int .i64 n, .sl none (.ints .i64 xs)]], [], K => K (.bool (famB n xs)) []
  | _, _, _ => False
theorem at_spec_IsFamily {n : Int} {xs : List Int} {K : AV → List Bx → Prop} : sp_spec_IsFamily [.agg [.int .i64 n, .sl none (.ints .i64 xs)]] [] K = (K (.bool (famB n xs)) []) := id rfl
theorem ok_spec_IsFamily : ∀ args giv K, sp_spec_IsFamily args giv K → ∃ r outs, ARuns Try.prog 68 args giv r outs ∧ K r outs := by
  intro args giv K hk
  unfold sp_spec_IsFamily at hk
  split at hk
  · exact ⟨_, _, runs_spec_IsFamily _ _ , hk⟩
  · exact hk.elim
theorem is_spec_l20Pack : FnIs Try.prog 69 60 [.tmp 8] (Try.f69.body.getD .skip) := ⟨⟨Try.f69, by kernel_rfl, by kernel_rfl, by kernel_rfl, by kernel_rfl⟩, by kernel_rfl, by kernel_rfl⟩
def lend_spec_l20Pack : List Nat := []
def spR_spec_l20Pack (N : Nat) : List AV → List Bx → (AV → List Bx → Prop) → Prop
  | [.sl none (.ints .i64 all), .int .i64 from_, .int .i64 u, .sl none (.ints .i64 l)], [], K => (all.length - from_.toNat < N) ∧ (0 ≤ from_ ∧ from_ ≤ all.length) ∧ ((l.length : Int) + all.length ≤ 1048576 + from_ ∧ all.length ≤ 1048576) ∧ (((pgrw (all.drop from_.toNat) u l l).length = l.length) → K (.prm 3 (.ints .i64 l)) []) ∧ ((¬ (pgrw (all.drop from_.toNat) u l l).length = l.length) → K (.sl (some 3) (.ints .i64 (pgrw (all.drop from_.toNat) u l l))) [])
  | _, _, _ => False
theorem atR_spec_l20Pack {N : Nat} {all : List Int} {from_ u : Int} {l : List Int} {K : AV → List Bx → Prop} : spR_spec_l20Pack N [.sl none (.ints .i64 all), .int .i64 from_, .int .i64 u, .sl none (.ints .i64 l)] [] K = ((all.length - from_.toNat < N) ∧ (0 ≤ from_ ∧ from_ ≤ all.length) ∧ ((l.length : Int) + all.length ≤ 1048576 + from_ ∧ all.length ≤ 1048576) ∧ (((pgrw (all.drop from_.toNat) u l l).length = l.length) → K (.prm 3 (.ints .i64 l)) []) ∧ ((¬ (pgrw (all.drop from_.toNat) u l l).length = l.length) → K (.sl (some 3) (.ints .i64 (pgrw (all.drop from_.toNat) u l l))) [])) := id rfl
def G_spec_l20Pack (N : Nat) : Gm := Gm.none.add 69 lend_spec_l20Pack (spR_spec_l20Pack N)
theorem gs_spec_l20Pack_69 {N : Nat} : (G_spec_l20Pack N).sp 69 = spR_spec_l20Pack N ∧ (G_spec_l20Pack N).lend 69 = lend_spec_l20Pack := ⟨rfl, rfl⟩
set_option maxHeartbeats 1000000 in
set_option maxRecDepth 100000 in
theorem runs_spec_l20Pack_1_st {N : Nat} (hok : (G_spec_l20Pack N).ok Try.prog) (all : List Int) (from_ u : Int) (l : List Int) (hp1 : 0 ≤ from_ ∧ from_ ≤ all.length) (hp2 : (l.length : Int) + all.length ≤ 1048576 + from_ ∧ all.length ≤ 1048576) (hc : (pgrw (all.drop from_.toNat) u l l).length = l.length) (hm : all.length - from_.toNat = N) : ARuns Try.prog 69 [.sl none (.ints .i64 all), .int .i64 from_, .int .i64 u, .sl none (.ints .i64 l)] [] (.prm 3 (.ints .i64 l)) [] := by
  subst hm
  refine ARuns_bc hok is_spec_l20Pack (by simp) fun hl hlB => ?_
  simp only [kcode_at, kreg_at, bc_skip, bc_seq, bc_cond, bc_block, bc_exit, bc_ret, bc_region, lkX_cons, acond_tmp, aCase_t, aCase_f, aCase_b, afin_nil, cvE_some, resL, resV, resC, cv, cvL, pack, entryE, inPrm, Option.getD_some, acall_clo, add_sp, add_lend, kcall_nil, selOf, selC, selA, inArgs, inA, inL, okA, okL, okBx, okC, outA, outL, outU, outB, deep, deepL, boxIds, AV.bid, List.map_nil, List.map_cons, List.all_nil, List.all_cons, BEq.rfl, Bool.and_true, Bool.true_and, List.append_nil, aops_nil, aops_plain, aops_guard, kont_at, yes_at, no_at, aop_move, aop_assign, aop_pick, aop_alloc, aop_box, aop_build, aop_buildSlice, aop_load, aop_store, aop_nilCheck, aop_binOp, aop_unOp, aop_convert, aop_fieldAddr, aop_indexAddr, aop_slice, aop_extract, aop_makeSlice, aop_len, aop_max, aMax_int, slTy2, SC0, aop_append, aop_call, evalE, getE, putE, getB, setB, St.put, setsB, nth, AV.ofV, AV.blk, AV.bid, AV.one, SC.len, SC.get, List.length_nil, List.length_cons, Nat.reduceEqDiff, Nat.reduceAdd, ↓reduceIte, true_and, and_true, Bool.true_eq_false, Bool.false_eq_true, false_imp_iff, true_imp_iff, decide_eq_true_eq, Bool.not_eq_true', Bool.not_eq_false', decide_eq_false_iff_not, Option.isSome, List.nil_append, List.cons_append, aGuardO_some, aGuard_tt, aGuard_tf, aGuard_ft, aGuard_ff, aGuard_tb, aGuard_fb, aGuard_ts, aGuard_fs, aPick_b, aPick_t, aPick_f, aAlloc_one, aAlloc_flat, aBox_some, aBuild_flat, aInt_add, aBin_add, aInt_sub, aBin_sub, aInt_mul, aBin_mul, aInt_quo, aBin_quo, aInt_rem, aBin_rem, aInt_and, aBin_and, aInt_or, aBin_or, aInt_xor, aBin_xor, aInt_andNot, aBin_andNot, aInt_eql, aBin_eql, aInt_neq, aBin_neq, aInt_lss, aBin_lss, aInt_leq, aBin_leq, aInt_gtr, aBin_gtr, aInt_geq, aBin_geq, aBin_shl, aBin_shr, aShift_shl, aShift_shr, aBin_be1, aBin_bn1, aBin_be2, aBin_bn2, aBin_be3, aBin_bn3, aBin_be4, aBin_bn4, aBin_be5, aBin_bn5, aBin_be6, aBin_bn6, aBin_be7, aBin_bn7, aBin_be8, aBin_bn8, aBin_be9, aBin_bn9, aUn_b, aUn_t, aUn_f, aUn_i, aNil_ptr, aNil_pv, aConv_int, aField_ptr, aField_pv, aIdx_sl, aIdx_prm, aIdx_row, aIdx_drow, aMake_i, aMake_s, aExtr_tup, aLen_ref, aLen_nil, aLen_sl, aLen_prm, aLen_str, aBuildL_some, aBuildS_some, aLoad_1b, aLoad_1d, aLoad_fb, aLoad_fd, aLoad_1p, aLoad_fp, aLoad_ep, aLoad_rr, aLoad_rd, aStore_1, aStore_f, aStore_r, aApp_some, aAppend_nil, aAppend_ref, aSlice_h, aSlice_l, aSlice_lh, aop_slice3, aSlice3_r, aop_field, aFld_agg, aBinW_f, aBinW_t, aWrap_mul, aWrap_add, isW_tmp, isW_mulc, isW_addc, isW_sub, isW_quo, isW_rem, isW_and, isW_or, isW_xor, isW_andNot, isW_shl, isW_shr, isW_eql, isW_neq, isW_lss, isW_leq, isW_gtr, isW_geq, Int.reduceLT, aBinW_dF, aBinW_dT, bc_draw, kregD_at, aopsD_nil, aopsD_plain, aopsD_guard, kontD_at, contD_at, yesD_at, noD_at, splD_bool, splD_undef, splD_skip, splD_int, splD_tt, splD_ff, splD_str, splD_nil, splD_sl, splD_prm, splD_ref, splD_ptr, splD_rp, splD_ep, splD_pv, splD_agg, splD_tup, splD_clo, gD_tt, gD_tf, gD_ft, gD_ff, gD_ts, gD_fs, slotO_some, addTr_nil, addTr_cons, memQ_nil, memQ_cons, clash_nil, clash_cons, regC_none, regC_nil, regC_cons, regR_nil, regR_cons, Int.toNat_zero, Int.toNat_one, rng0, rng1, rng2, rng3, rng4, SC.take, SC.drop, mp_nil, acond_ct, acond_cf, mp_one0, mp_one1, mp_one2, mp_one3, kcall_one, liveB_row, liveB_box, idx, cont, still, dies, lend, lendA, lendDies, snocs, SC.snoc, SC.app, meet, AV.cells, fillA, List.getD_cons_zero, List.getD_cons_succ, List.set_cons_zero, List.set_cons_succ, List.length_singleton, Nat.le_refl, Nat.lt_irrefl, Nat.reduceLT, Nat.reduceLeDiff, Option.map_some, Option.map_none, List.flatMap_nil, List.flatMap_cons, Nat.zero_add, BEq.rfl, kcall_two, mp_two0, mp_two1, mp_two2, mp_two3, mp_two4, aop_makeFunc, plainA, Bool.true_and, sl3, ty3, un3, sl56, ty56, un56, sl85, ty85, un85, sl83, ty83, un83, sl5, ty5, un5, sl2, ty2, un2, sl21, ty21, un21, sl4, ty4, un4, sl9, un9, sl22, ty22, un22, sl55, sl62, sl73, sl77, sl86, ty73, ty39, sl39, ty33, sl33, ty79, sl79, ty67, sl67, inR64, inRu64, inRu32, gs_spec_l20Pack_69, atR_spec_l20Pack, lend_spec_l20Pack, Try.f69]
  obtain ⟨F, rfl⟩ := Int.eq_ofNat_of_zero_le hp1.1
  simp only [Int.toNat_natCast] at *
  generalize hR : pgrw (all.drop F) u l l = R at *
  refine bc_loop (fun (p : Nat × Option (List Int)) => p.1 ≤ all.length ∧ F ≤ p.1 ∧ pgrw (all.drop p.1) u l (bestL l p.2) = R ∧ (∀ b, p.2 = some b → l.length < b.length ∧ b.length ≤ 1048576))
    (fun p => ⟨[(0, .prm 0 (.ints .i64 all)), (2, .int .i64 u), (3, .prm 3 (.ints .i64 l)), (9, bestV 3 3 l p.2), (10, .int .i64 p.1)], []⟩) (fun p => all.length - p.1)
    [0, 2, 3, 9, 10] [] (F, none) rfl (by simp [St.conv, St.bf, getE, putE, getB, cv, cvL, cvB, idx, still, pack, lifts, liftOne, cellsOfB, setB]; rfl) ⟨by simp only; omega, by simp, hR, fun b hb => by cases hb⟩ fun p hV => ?_
  obtain ⟨i, o⟩ := p
  obtain ⟨h1, h0, h2, h3⟩ := hV
  simp only at h1 h0 h2 h3
  have hstop := pgrw_stop (all := all) (u := u) (l := l) (b := bestL l o) (i := i)
  have hnext := pgrw_next (all := all) (u := u) (l := l) (b := bestL l o) (i := i)
  cases o with
  | none =>
    simp only [bestV_none, bestV_some, bestL_none, bestL_some] at h2 hstop hnext ⊢
    simp only [kcode_at, kreg_at, bc_skip, bc_seq, bc_cond, bc_block, bc_exit, bc_ret, bc_region, lkX_cons, acond_tmp, aCase_t, aCase_f, aCase_b, afin_nil, cvE_some, resL, resV, resC, cv, cvL, pack, entryE, inPrm, Option.getD_some, acall_clo, add_sp, add_lend, kcall_nil, selOf, selC, selA, inArgs, inA, inL, okA, okL, okBx, okC, outA, outL, outU, outB, deep, deepL, boxIds, AV.bid, List.map_nil, List.map_cons, List.all_nil, List.all_cons, BEq.rfl, Bool.and_true, Bool.true_and, List.append_nil, aops_nil, aops_plain, aops_guard, kont_at, yes_at, no_at, aop_move, aop_assign, aop_pick, aop_alloc, aop_box, aop_build, aop_buildSlice, aop_load, aop_store, aop_nilCheck, aop_binOp, aop_unOp, aop_convert, aop_fieldAddr, aop_indexAddr, aop_slice, aop_extract, aop_makeSlice, aop_len, aop_max, aMax_int, slTy2, SC0, aop_append, aop_call, evalE, getE, putE, getB, setB, St.put, setsB, nth, AV.ofV, AV.blk, AV.bid, AV.one, SC.len, SC.get, List.length_nil, List.length_cons, Nat.reduceEqDiff, Nat.reduceAdd, ↓reduceIte, true_and, and_true, Bool.true_eq_false, Bool.false_eq_true, false_imp_iff, true_imp_iff, decide_eq_true_eq, Bool.not_eq_true', Bool.not_eq_false', decide_eq_false_iff_not, Option.isSome, List.nil_append, List.cons_append, aGuardO_some, aGuard_tt, aGuard_tf, aGuard_ft, aGuard_ff, aGuard_tb, aGuard_fb, aGuard_ts, aGuard_fs, aPick_b, aPick_t, aPick_f, aAlloc_one, aAlloc_flat, aBox_some, aBuild_flat, aInt_add, aBin_add, aInt_sub, aBin_sub, aInt_mul, aBin_mul, aInt_quo, aBin_quo, aInt_rem, aBin_rem, aInt_and, aBin_and, aInt_or, aBin_or, aInt_xor, aBin_xor, aInt_andNot, aBin_andNot, aInt_eql, aBin_eql, aInt_neq, aBin_neq, aInt_lss, aBin_lss, aInt_leq, aBin_leq, aInt_gtr, aBin_gtr, aInt_geq, aBin_geq, aBin_shl, aBin_shr, aShift_shl, aShift_shr, aBin_be1, aBin_bn1, aBin_be2, aBin_bn2, aBin_be3, aBin_bn3, aBin_be4, aBin_bn4, aBin_be5, aBin_bn5, aBin_be6, aBin_bn6, aBin_be7, aBin_bn7, aBin_be8, aBin_bn8, aBin_be9, aBin_bn9, aUn_b, aUn_t, aUn_f, aUn_i, aNil_ptr, aNil_pv, aConv_int, aField_ptr, aField_pv, aIdx_sl, aIdx_prm, aIdx_row, aIdx_drow, aMake_i, aMake_s, aExtr_tup, aLen_ref, aLen_nil, aLen_sl, aLen_prm, aLen_str, aBuildL_some, aBuildS_some, aLoad_1b, aLoad_1d, aLoad_fb, aLoad_fd, aLoad_1p, aLoad_fp, aLoad_ep, aLoad_rr, aLoad_rd, aStore_1, aStore_f, aStore_r, aApp_some, aAppend_nil, aAppend_ref, aSlice_h, aSlice_l, aSlice_lh, aop_slice3, aSlice3_r, aop_field, aFld_agg, aBinW_f, aBinW_t, aWrap_mul, aWrap_add, isW_tmp, isW_mulc, isW_addc, isW_sub, isW_quo, isW_rem, isW_and, isW_or, isW_xor, isW_andNot, isW_shl, isW_shr, isW_eql, isW_neq, isW_lss, isW_leq, isW_gtr, isW_geq, Int.reduceLT, aBinW_dF, aBinW_dT, bc_draw, kregD_at, aopsD_nil, aopsD_plain, aopsD_guard, kontD_at, contD_at, yesD_at, noD_at, splD_bool, splD_undef, splD_skip, splD_int, splD_tt, splD_ff, splD_str, splD_nil, splD_sl, splD_prm, splD_ref, splD_ptr, splD_rp, splD_ep, splD_pv, splD_agg, splD_tup, splD_clo, gD_tt, gD_tf, gD_ft, gD_ff, gD_ts, gD_fs, slotO_some, addTr_nil, addTr_cons, memQ_nil, memQ_cons, clash_nil, clash_cons, regC_none, regC_nil, regC_cons, regR_nil, regR_cons, Int.toNat_zero, Int.toNat_one, rng0, rng1, rng2, rng3, rng4, SC.take, SC.drop, mp_nil, acond_ct, acond_cf, mp_one0, mp_one1, mp_one2, mp_one3, kcall_one, liveB_row, liveB_box, idx, cont, still, dies, lend, lendA, lendDies, snocs, SC.snoc, SC.app, meet, AV.cells, fillA, List.getD_cons_zero, List.getD_cons_succ, List.set_cons_zero, List.set_cons_succ, List.length_singleton, Nat.le_refl, Nat.lt_irrefl, Nat.reduceLT, Nat.reduceLeDiff, Option.map_some, Option.map_none, List.flatMap_nil, List.flatMap_cons, Nat.zero_add, BEq.rfl, kcall_two, mp_two0, mp_two1, mp_two2, mp_two3, mp_two4, aop_makeFunc, plainA, Bool.true_and, sl3, ty3, un3, sl56, ty56, un56, sl85, ty85, un85, sl83, ty83, un83, sl5, ty5, un5, sl2, ty2, un2, sl21, ty21, un21, sl4, ty4, un4, sl9, un9, sl22, ty22, un22, sl55, sl62, sl73, sl77, sl86, ty73, ty39, sl39, ty33, sl33, ty79, sl79, ty67, sl67, inR64, inRu64, inRu32, gs_spec_l20Pack_69, atR_spec_l20Pack, lend_spec_l20Pack, Int.toNat_natCast, List.length_append, List.length_singleton, toNat_succ]
    refine ⟨fun hlt => ?_, fun hge => ?_⟩
    · have hnx := hnext (by omega)
      rw [hnx] at h2
      generalize all.getD i 0 = s at *
      have hgl := pgrw_len (r := all.drop (i + 1)) (u := bor .i64 u s) (l := l ++ [s]) (b := l ++ [s])
      simp only [List.length_append, List.length_singleton, List.length_drop] at hgl
      refine ⟨by omega, fun ha => ?_, fun ha => ⟨by omega, fun hz => ?_, fun hz => ?_⟩⟩
      · have hf : fitP u s = false := by simp [fitP, ha]
        rw [if_neg (by rw [hf]; decide)] at h2
        exact ⟨by omega, klp_of (i + 1, none) (by simp [St.conv, St.bf, getE, putE, getB, cv, cvL, cvB, idx, still, pack, lifts, liftOne, cellsOfB, setB]; rfl) ⟨by simp only; omega, by simp only; omega, h2, h3⟩ (by simp only; omega)⟩
      · have hf : fitP u s = false := by simp [fitP, hz]
        rw [if_neg (by rw [hf]; decide)] at h2
        exact ⟨by omega, klp_of (i + 1, none) (by simp [St.conv, St.bf, getE, putE, getB, cv, cvL, cvB, idx, still, pack, lifts, liftOne, cellsOfB, setB]; rfl) ⟨by simp only; omega, by simp only; omega, h2, h3⟩ (by simp only; omega)⟩
      · have hf : fitP u s = true := by simp [fitP, hz]; omega
        rw [if_pos hf] at h2
        repeat (first | (refine And.intro ?_ ?_; · omega) | (refine And.intro ?_ ?_; · ((repeat' apply And.intro) <;> (show ordB _ _ _ = true; kernel_rfl))) | fail)
        refine ⟨fun hx => ?_, fun hx => ?_⟩
        · have he := pgrw_eq (r := all.drop (i + 1)) (u := bor .i64 u s) (l := l ++ [s]) (b := l ++ [s]) (by simp only [List.length_append, List.length_singleton]; exact hx)
          repeat (first | (refine And.intro ?_ ?_; · omega) | (refine And.intro ?_ ?_; · ((repeat' apply And.intro) <;> (show ordB _ _ _ = true; kernel_rfl))) | fail)
          exact ⟨fun _ => ⟨by omega, klp_of (i + 1, some (l ++ [s])) (by simp [St.conv, St.bf, getE, putE, getB, cv, cvL, cvB, idx, still, pack, lifts, liftOne, cellsOfB, setB]; simp [SC.len, bestV]) ⟨by simp only; omega, by simp only; omega, by rw [bestL_some]; rw [he, comb, if_pos (by simp)] at h2; exact h2, fun b hb => by cases hb; simp; omega⟩ (by simp only; omega)⟩, fun h => absurd (by omega) h⟩
        · repeat (first | (refine And.intro ?_ ?_; · omega) | (refine And.intro ?_ ?_; · ((repeat' apply And.intro) <;> (show ordB _ _ _ = true; kernel_rfl))) | fail)
          exact ⟨fun hgt => ⟨by omega, klp_of (i + 1, some _) (by simp [St.conv, St.bf, getE, putE, getB, cv, cvL, cvB, idx, still, pack, lifts, liftOne, cellsOfB, setB]; rfl) ⟨by simp only; omega, by simp only; omega, by rw [bestL_some]; rw [comb, if_pos (by omega)] at h2; exact h2, fun b hb => by cases hb; omega⟩ (by simp only; omega)⟩, fun hgt => ⟨by omega, klp_of (i + 1, none) (by simp [St.conv, St.bf, getE, putE, getB, cv, cvL, cvB, idx, still, pack, lifts, liftOne, cellsOfB, setB]; rfl) ⟨by simp only; omega, by simp only; omega, by rw [bestL_none]; rw [comb, if_neg (by omega)] at h2; exact h2, h3⟩ (by simp only; omega)⟩⟩
    · have hs := hstop (by omega)
      trivial
  | some b =>
    simp only [bestV_none, bestV_some, bestL_none, bestL_some] at h2 hstop hnext ⊢
    simp only [kcode_at, kreg_at, bc_skip, bc_seq, bc_cond, bc_block, bc_exit, bc_ret, bc_region, lkX_cons, acond_tmp, aCase_t, aCase_f, aCase_b, afin_nil, cvE_some, resL, resV, resC, cv, cvL, pack, entryE, inPrm, Option.getD_some, acall_clo, add_sp, add_lend, kcall_nil, selOf, selC, selA, inArgs, inA, inL, okA, okL, okBx, okC, outA, outL, outU, outB, deep, deepL, boxIds, AV.bid, List.map_nil, List.map_cons, List.all_nil, List.all_cons, BEq.rfl, Bool.and_true, Bool.true_and, List.append_nil, aops_nil, aops_plain, aops_guard, kont_at, yes_at, no_at, aop_move, aop_assign, aop_pick, aop_alloc, aop_box, aop_build, aop_buildSlice, aop_load, aop_store, aop_nilCheck, aop_binOp, aop_unOp, aop_convert, aop_fieldAddr, aop_indexAddr, aop_slice, aop_extract, aop_makeSlice, aop_len, aop_max, aMax_int, slTy2, SC0, aop_append, aop_call, evalE, getE, putE, getB, setB, St.put, setsB, nth, AV.ofV, AV.blk, AV.bid, AV.one, SC.len, SC.get, List.length_nil, List.length_cons, Nat.reduceEqDiff, Nat.reduceAdd, ↓reduceIte, true_and, and_true, Bool.true_eq_false, Bool.false_eq_true, false_imp_iff, true_imp_iff, decide_eq_true_eq, Bool.not_eq_true', Bool.not_eq_false', decide_eq_false_iff_not, Option.isSome, List.nil_append, List.cons_append, aGuardO_some, aGuard_tt, aGuard_tf, aGuard_ft, aGuard_ff, aGuard_tb, aGuard_fb, aGuard_ts, aGuard_fs, aPick_b, aPick_t, aPick_f, aAlloc_one, aAlloc_flat, aBox_some, aBuild_flat, aInt_add, aBin_add, aInt_sub, aBin_sub, aInt_mul, aBin_mul, aInt_quo, aBin_quo, aInt_rem, aBin_rem, aInt_and, aBin_and, aInt_or, aBin_or, aInt_xor, aBin_xor, aInt_andNot, aBin_andNot, aInt_eql, aBin_eql, aInt_neq, aBin_neq, aInt_lss, aBin_lss, aInt_leq, aBin_leq, aInt_gtr, aBin_gtr, aInt_geq, aBin_geq, aBin_shl, aBin_shr, aShift_shl, aShift_shr, aBin_be1, aBin_bn1, aBin_be2, aBin_bn2, aBin_be3, aBin_bn3, aBin_be4, aBin_bn4, aBin_be5, aBin_bn5, aBin_be6, aBin_bn6, aBin_be7, aBin_bn7, aBin_be8, aBin_bn8, aBin_be9, aBin_bn9, aUn_b, aUn_t, aUn_f, aUn_i, aNil_ptr, aNil_pv, aConv_int, aField_ptr, aField_pv, aIdx_sl, aIdx_prm, aIdx_row, aIdx_drow, aMake_i, aMake_s, aExtr_tup, aLen_ref, aLen_nil, aLen_sl, aLen_prm, aLen_str, aBuildL_some, aBuildS_some, aLoad_1b, aLoad_1d, aLoad_fb, aLoad_fd, aLoad_1p, aLoad_fp, aLoad_ep, aLoad_rr, aLoad_rd, aStore_1, aStore_f, aStore_r, aApp_some, aAppend_nil, aAppend_ref, aSlice_h, aSlice_l, aSlice_lh, aop_slice3, aSlice3_r, aop_field, aFld_agg, aBinW_f, aBinW_t, aWrap_mul, aWrap_add, isW_tmp, isW_mulc, isW_addc, isW_sub, isW_quo, isW_rem, isW_and, isW_or, isW_xor, isW_andNot, isW_shl, isW_shr, isW_eql, isW_neq, isW_lss, isW_leq, isW_gtr, isW_geq, Int.reduceLT, aBinW_dF, aBinW_dT, bc_draw, kregD_at, aopsD_nil, aopsD_plain, aopsD_guard, kontD_at, contD_at, yesD_at, noD_at, splD_bool, splD_undef, splD_skip, splD_int, splD_tt, splD_ff, splD_str, splD_nil, splD_sl, splD_prm, splD_ref, splD_ptr, splD_rp, splD_ep, splD_pv, splD_agg, splD_tup, splD_clo, gD_tt, gD_tf, gD_ft, gD_ff, gD_ts, gD_fs, slotO_some, addTr_nil, addTr_cons, memQ_nil, memQ_cons, clash_nil, clash_cons, regC_none, regC_nil, regC_cons, regR_nil, regR_cons, Int.toNat_zero, Int.toNat_one, rng0, rng1, rng2, rng3, rng4, SC.take, SC.drop, mp_nil, acond_ct, acond_cf, mp_one0, mp_one1, mp_one2, mp_one3, kcall_one, liveB_row, liveB_box, idx, cont, still, dies, lend, lendA, lendDies, snocs, SC.snoc, SC.app, meet, AV.cells, fillA, List.getD_cons_zero, List.getD_cons_succ, List.set_cons_zero, List.set_cons_succ, List.length_singleton, Nat.le_refl, Nat.lt_irrefl, Nat.reduceLT, Nat.reduceLeDiff, Option.map_some, Option.map_none, List.flatMap_nil, List.flatMap_cons, Nat.zero_add, BEq.rfl, kcall_two, mp_two0, mp_two1, mp_two2, mp_two3, mp_two4, aop_makeFunc, plainA, Bool.true_and, sl3, ty3, un3, sl56, ty56, un56, sl85, ty85, un85, sl83, ty83, un83, sl5, ty5, un5, sl2, ty2, un2, sl21, ty21, un21, sl4, ty4, un4, sl9, un9, sl22, ty22, un22, sl55, sl62, sl73, sl77, sl86, ty73, ty39, sl39, ty33, sl33, ty79, sl79, ty67, sl67, inR64, inRu64, inRu32, gs_spec_l20Pack_69, atR_spec_l20Pack, lend_spec_l20Pack, Int.toNat_natCast, List.length_append, List.length_singleton, toNat_succ]
    have h3b := h3 b rfl
    refine ⟨fun hlt => ?_, fun hge => ?_⟩
    · have hnx := hnext (by omega)
      rw [hnx] at h2
      generalize all.getD i 0 = s at *
      have hgl := pgrw_len (r := all.drop (i + 1)) (u := bor .i64 u s) (l := l ++ [s]) (b := l ++ [s])
      simp only [List.length_append, List.length_singleton, List.length_drop] at hgl
      refine ⟨by omega, fun ha => ?_, fun ha => ⟨by omega, fun hz => ?_, fun hz => ?_⟩⟩
      · have hf : fitP u s = false := by simp [fitP, ha]
        rw [if_neg (by rw [hf]; decide)] at h2
        exact ⟨by omega, klp_of (i + 1, some b) (by simp [St.conv, St.bf, getE, putE, getB, cv, cvL, cvB, idx, still, pack, lifts, liftOne, cellsOfB, setB]; rfl) ⟨by simp only; omega, by simp only; omega, h2, h3⟩ (by simp only; omega)⟩
      · have hf : fitP u s = false := by simp [fitP, hz]
        rw [if_neg (by rw [hf]; decide)] at h2
        exact ⟨by omega, klp_of (i + 1, some b) (by simp [St.conv, St.bf, getE, putE, getB, cv, cvL, cvB, idx, still, pack, lifts, liftOne, cellsOfB, setB]; rfl) ⟨by simp only; omega, by simp only; omega, h2, h3⟩ (by simp only; omega)⟩
      · have hf : fitP u s = true := by simp [fitP, hz]; omega
        rw [if_pos hf] at h2
        repeat (first | (refine And.intro ?_ ?_; · omega) | (refine And.intro ?_ ?_; · ((repeat' apply And.intro) <;> (show ordB _ _ _ = true; kernel_rfl))) | fail)
        refine ⟨fun hx => ?_, fun hx => ?_⟩
        · have he := pgrw_eq (r := all.drop (i + 1)) (u := bor .i64 u s) (l := l ++ [s]) (b := l ++ [s]) (by simp only [List.length_append, List.length_singleton]; exact hx)
          repeat (first | (refine And.intro ?_ ?_; · omega) | (refine And.intro ?_ ?_; · ((repeat' apply And.intro) <;> (show ordB _ _ _ = true; kernel_rfl))) | fail)
          exact fun _ => ⟨by omega, klp_of (i + 1, some b) (by simp [St.conv, St.bf, getE, putE, getB, cv, cvL, cvB, idx, still, pack, lifts, liftOne, cellsOfB, setB]; rfl) ⟨by simp only; omega, by simp only; omega, by rw [bestL_some]; rw [he, comb, if_neg (by simp; omega)] at h2; exact h2, h3⟩ (by simp only; omega)⟩
        · repeat (first | (refine And.intro ?_ ?_; · omega) | (refine And.intro ?_ ?_; · ((repeat' apply And.intro) <;> (show ordB _ _ _ = true; kernel_rfl))) | fail)
          exact ⟨fun hgt => ⟨by omega, klp_of (i + 1, some _) (by simp [St.conv, St.bf, getE, putE, getB, cv, cvL, cvB, idx, still, pack, lifts, liftOne, cellsOfB, setB]; rfl) ⟨by simp only; omega, by simp only; omega, by rw [bestL_some]; rw [comb, if_pos (by omega)] at h2; exact h2, fun b hb => by cases hb; omega⟩ (by simp only; omega)⟩, fun hgt => ⟨by omega, klp_of (i + 1, some b) (by simp [St.conv, St.bf, getE, putE, getB, cv, cvL, cvB, idx, still, pack, lifts, liftOne, cellsOfB, setB]; rfl) ⟨by simp only; omega, by simp only; omega, by rw [bestL_some]; rw [comb, if_neg (by omega)] at h2; exact h2, h3⟩ (by simp only; omega)⟩⟩
    · have hs := hstop (by omega)
      exact absurd (hc.symm.trans (congrArg List.length (h2.symm.trans hs))) (by omega)
set_option maxHeartbeats 1000000 in
set_option maxRecDepth 100000 in
theorem runs_spec_l20Pack_2_st {N : Nat} (hok : (G_spec_l20Pack N).ok Try.prog) (all : List Int) (from_ u : Int) (l : List Int) (hp1 : 0 ≤ from_ ∧ from_ ≤ all.length) (hp2 : (l.length : Int) + all.length ≤ 1048576 + from_ ∧ all.length ≤ 1048576) (hc : ¬ (pgrw (all.drop from_.toNat) u l l).length = l.length) (hm : all.length - from_.toNat = N) : ARuns Try.prog 69 [.sl none (.ints .i64 all), .int .i64 from_, .int .i64 u, .sl none (.ints .i64 l)] [] (.sl (some 3) (.ints .i64 (pgrw (all.drop from_.toNat) u l l))) [] := by
  subst hm
  refine ARuns_bc hok is_spec_l20Pack (by simp) fun hl hlB => ?_
  simp only [kcode_at, kreg_at, bc_skip, bc_seq, bc_cond, bc_block, bc_exit, bc_ret, bc_region, lkX_cons, acond_tmp, aCase_t, aCase_f, aCase_b, afin_nil, cvE_some, resL, resV, resC, cv, cvL, pack, entryE, inPrm, Option.getD_some, acall_clo, add_sp, add_lend, kcall_nil, selOf, selC, selA, inArgs, inA, inL, okA, okL, okBx, okC, outA, outL, outU, outB, deep, deepL, boxIds, AV.bid, List.map_nil, List.map_cons, List.all_nil, List.all_cons, BEq.rfl, Bool.and_true, Bool.true_and, List.append_nil, aops_nil, aops_plain, aops_guard, kont_at, yes_at, no_at, aop_move, aop_assign, aop_pick, aop_alloc, aop_box, aop_build, aop_buildSlice, aop_load, aop_store, aop_nilCheck, aop_binOp, aop_unOp, aop_convert, aop_fieldAddr, aop_indexAddr, aop_slice, aop_extract, aop_makeSlice, aop_len, aop_max, aMax_int, slTy2, SC0, aop_append, aop_call, evalE, getE, putE, getB, setB, St.put, setsB, nth, AV.ofV, AV.blk, AV.bid, AV.one, SC.len, SC.get, List.length_nil, List.length_cons, Nat.reduceEqDiff, Nat.reduceAdd, ↓reduceIte, true_and, and_true, Bool.true_eq_false, Bool.false_eq_true, false_imp_iff, true_imp_iff, decide_eq_true_eq, Bool.not_eq_true', Bool.not_eq_false', decide_eq_false_iff_not, Option.isSome, List.nil_append, List.cons_append, aGuardO_some, aGuard_tt, aGuard_tf, aGuard_ft, aGuard_ff, aGuard_tb, aGuard_fb, aGuard_ts, aGuard_fs, aPick_b, aPick_t, aPick_f, aAlloc_one, aAlloc_flat, aBox_some, aBuild_flat, aInt_add, aBin_add, aInt_sub, aBin_sub, aInt_mul, aBin_mul, aInt_quo, aBin_quo, aInt_rem, aBin_rem, aInt_and, aBin_and, aInt_or, aBin_or, aInt_xor, aBin_xor, aInt_andNot, aBin_andNot, aInt_eql, aBin_eql, aInt_neq, aBin_neq, aInt_lss, aBin_lss, aInt_leq, aBin_leq, aInt_gtr, aBin_gtr, aInt_geq, aBin_geq, aBin_shl, aBin_shr, aShift_shl, aShift_shr, aBin_be1, aBin_bn1, aBin_be2, aBin_bn2, aBin_be3, aBin_bn3, aBin_be4, aBin_bn4, aBin_be5, aBin_bn5, aBin_be6, aBin_bn6, aBin_be7, aBin_bn7, aBin_be8, aBin_bn8, aBin_be9, aBin_bn9, aUn_b, aUn_t, aUn_f, aUn_i, aNil_ptr, aNil_pv, aConv_int, aField_ptr, aField_pv, aIdx_sl, aIdx_prm, aIdx_row, aIdx_drow, aMake_i, aMake_s, aExtr_tup, aLen_ref, aLen_nil, aLen_sl, aLen_prm, aLen_str, aBuildL_some, aBuildS_some, aLoad_1b, aLoad_1d, aLoad_fb, aLoad_fd, aLoad_1p, aLoad_fp, aLoad_ep, aLoad_rr, aLoad_rd, aStore_1, aStore_f, aStore_r, aApp_some, aAppend_nil, aAppend_ref, aSlice_h, aSlice_l, aSlice_lh, aop_slice3, aSlice3_r, aop_field, aFld_agg, aBinW_f, aBinW_t, aWrap_mul, aWrap_add, isW_tmp, isW_mulc, isW_addc, isW_sub, isW_quo, isW_rem, isW_and, isW_or, isW_xor, isW_andNot, isW_shl, isW_shr, isW_eql, isW_neq, isW_lss, isW_leq, isW_gtr, isW_geq, Int.reduceLT, aBinW_dF, aBinW_dT, bc_draw, kregD_at, aopsD_nil, aopsD_plain, aopsD_guard, kontD_at, contD_at, yesD_at, noD_at, splD_bool, splD_undef, splD_skip, splD_int, splD_tt, splD_ff, splD_str, splD_nil, splD_sl, splD_prm, splD_ref, splD_ptr, splD_rp, splD_ep, splD_pv, splD_agg, splD_tup, splD_clo, gD_tt, gD_tf, gD_ft, gD_ff, gD_ts, gD_fs, slotO_some, addTr_nil, addTr_cons, memQ_nil, memQ_cons, clash_nil, clash_cons, regC_none, regC_nil, regC_cons, regR_nil, regR_cons, Int.toNat_zero, Int.toNat_one, rng0, rng1, rng2, rng3, rng4, SC.take, SC.drop, mp_nil, acond_ct, acond_cf, mp_one0, mp_one1, mp_one2, mp_one3, kcall_one, liveB_row, liveB_box, idx, cont, still, dies, lend, lendA, lendDies, snocs, SC.snoc, SC.app, meet, AV.cells, fillA, List.getD_cons_zero, List.getD_cons_succ, List.set_cons_zero, List.set_cons_succ, List.length_singleton, Nat.le_refl, Nat.lt_irrefl, Nat.reduceLT, Nat.reduceLeDiff, Option.map_some, Option.map_none, List.flatMap_nil, List.flatMap_cons, Nat.zero_add, BEq.rfl, kcall_two, mp_two0, mp_two1, mp_two2, mp_two3, mp_two4, aop_makeFunc, plainA, Bool.true_and, sl3, ty3, un3, sl56, ty56, un56, sl85, ty85, un85, sl83, ty83, un83, sl5, ty5, un5, sl2, ty2, un2, sl21, ty21, un21, sl4, ty4, un4, sl9, un9, sl22, ty22, un22, sl55, sl62, sl73, sl77, sl86, ty73, ty39, sl39, ty33, sl33, ty79, sl79, ty67, sl67, inR64, inRu64, inRu32, gs_spec_l20Pack_69, atR_spec_l20Pack, lend_spec_l20Pack, Try.f69]
  obtain ⟨F, rfl⟩ := Int.eq_ofNat_of_zero_le hp1.1
  simp only [Int.toNat_natCast] at *
  generalize hR : pgrw (all.drop F) u l l = R at *
  refine bc_loop (fun (p : Nat × Option (List Int)) => p.1 ≤ all.length ∧ F ≤ p.1 ∧ pgrw (all.drop p.1) u l (bestL l p.2) = R ∧ (∀ b, p.2 = some b → l.length < b.length ∧ b.length ≤ 1048576))
    (fun p => ⟨[(0, .prm 0 (.ints .i64 all)), (2, .int .i64 u), (3, .prm 3 (.ints .i64 l)), (9, bestV 3 3 l p.2), (10, .int .i64 p.1)], []⟩) (fun p => all.length - p.1)
    [0, 2, 3, 9, 10] [] (F, none) rfl (by simp [St.conv, St.bf, getE, putE, getB, cv, cvL, cvB, idx, still, pack, lifts, liftOne, cellsOfB, setB]; rfl) ⟨by simp only; omega, by simp, hR, fun b hb => by cases hb⟩ fun p hV => ?_
  obtain ⟨i, o⟩ := p
  obtain ⟨h1, h0, h2, h3⟩ := hV
  simp only at h1 h0 h2 h3
  have hstop := pgrw_stop (all := all) (u := u) (l := l) (b := bestL l o) (i := i)
  have hnext := pgrw_next (all := all) (u := u) (l := l) (b := bestL l o) (i := i)
  cases o with
  | none =>
    simp only [bestV_none, bestV_some, bestL_none, bestL_some] at h2 hstop hnext ⊢
    simp only [kcode_at, kreg_at, bc_skip, bc_seq, bc_cond, bc_block, bc_exit, bc_ret, bc_region, lkX_cons, acond_tmp, aCase_t, aCase_f, aCase_b, afin_nil, cvE_some, resL, resV, resC, cv, cvL, pack, entryE, inPrm, Option.getD_some, acall_clo, add_sp, add_lend, kcall_nil, selOf, selC, selA, inArgs, inA, inL, okA, okL, okBx, okC, outA, outL, outU, outB, deep, deepL, boxIds, AV.bid, List.map_nil, List.map_cons, List.all_nil, List.all_cons, BEq.rfl, Bool.and_true, Bool.true_and, List.append_nil, aops_nil, aops_plain, aops_guard, kont_at, yes_at, no_at, aop_move, aop_assign, aop_pick, aop_alloc, aop_box, aop_build, aop_buildSlice, aop_load, aop_store, aop_nilCheck, aop_binOp, aop_unOp, aop_convert, aop_fieldAddr, aop_indexAddr, aop_slice, aop_extract, aop_makeSlice, aop_len, aop_max, aMax_int, slTy2, SC0, aop_append, aop_call, evalE, getE, putE, getB, setB, St.put, setsB, nth, AV.ofV, AV.blk, AV.bid, AV.one, SC.len, SC.get, List.length_nil, List.length_cons, Nat.reduceEqDiff, Nat.reduceAdd, ↓reduceIte, true_and, and_true, Bool.true_eq_false, Bool.false_eq_true, false_imp_iff, true_imp_iff, decide_eq_true_eq, Bool.not_eq_true', Bool.not_eq_false', decide_eq_false_iff_not, Option.isSome, List.nil_append, List.cons_append, aGuardO_some, aGuard_tt, aGuard_tf, aGuard_ft, aGuard_ff, aGuard_tb, aGuard_fb, aGuard_ts, aGuard_fs, aPick_b, aPick_t, aPick_f, aAlloc_one, aAlloc_flat, aBox_some, aBuild_flat, aInt_add, aBin_add, aInt_sub, aBin_sub, aInt_mul, aBin_mul, aInt_quo, aBin_quo, aInt_rem, aBin_rem, aInt_and, aBin_and, aInt_or, aBin_or, aInt_xor, aBin_xor, aInt_andNot, aBin_andNot, aInt_eql, aBin_eql, aInt_neq, aBin_neq, aInt_lss, aBin_lss, aInt_leq, aBin_leq, aInt_gtr, aBin_gtr, aInt_geq, aBin_geq, aBin_shl, aBin_shr, aShift_shl, aShift_shr, aBin_be1, aBin_bn1, aBin_be2, aBin_bn2, aBin_be3, aBin_bn3, aBin_be4, aBin_bn4, aBin_be5, aBin_bn5, aBin_be6, aBin_bn6, aBin_be7, aBin_bn7, aBin_be8, aBin_bn8, aBin_be9, aBin_bn9, aUn_b, aUn_t, aUn_f, aUn_i, aNil_ptr, aNil_pv, aConv_int, aField_ptr, aField_pv, aIdx_sl, aIdx_prm, aIdx_row, aIdx_drow, aMake_i, aMake_s, aExtr_tup, aLen_ref, aLen_nil, aLen_sl, aLen_prm, aLen_str, aBuildL_some, aBuildS_some, aLoad_1b, aLoad_1d, aLoad_fb, aLoad_fd, aLoad_1p, aLoad_fp, aLoad_ep, aLoad_rr, aLoad_rd, aStore_1, aStore_f, aStore_r, aApp_some, aAppend_nil, aAppend_ref, aSlice_h, aSlice_l, aSlice_lh, aop_slice3, aSlice3_r, aop_field, aFld_agg, aBinW_f, aBinW_t, aWrap_mul, aWrap_add, isW_tmp, isW_mulc, isW_addc, isW_sub, isW_quo, isW_rem, isW_and, isW_or, isW_xor, isW_andNot, isW_shl, isW_shr, isW_eql, isW_neq, isW_lss, isW_leq, isW_gtr, isW_geq, Int.reduceLT, aBinW_dF, aBinW_dT, bc_draw, kregD_at, aopsD_nil, aopsD_plain, aopsD_guard, kontD_at, contD_at, yesD_at, noD_at, splD_bool, splD_undef, splD_skip, splD_int, splD_tt, splD_ff, splD_str, splD_nil, splD_sl, splD_prm, splD_ref, splD_ptr, splD_rp, splD_ep, splD_pv, splD_agg, splD_tup, splD_clo, gD_tt, gD_tf, gD_ft, gD_ff, gD_ts, gD_fs, slotO_some, addTr_nil, addTr_cons, memQ_nil, memQ_cons, clash_nil, clash_cons, regC_none, regC_nil, regC_cons, regR_nil, regR_cons, Int.toNat_zero, Int.toNat_one, rng0, rng1, rng2, rng3, rng4, SC.take, SC.drop, mp_nil, acond_ct, acond_cf, mp_one0, mp_one1, mp_one2, mp_one3, kcall_one, liveB_row, liveB_box, idx, cont, still, dies, lend, lendA, lendDies, snocs, SC.snoc, SC.app, meet, AV.cells, fillA, List.getD_cons_zero, List.getD_cons_succ, List.set_cons_zero, List.set_cons_succ, List.length_singleton, Nat.le_refl, Nat.lt_irrefl, Nat.reduceLT, Nat.reduceLeDiff, Option.map_some, Option.map_none, List.flatMap_nil, List.flatMap_cons, Nat.zero_add, BEq.rfl, kcall_two, mp_two0, mp_two1, mp_two2, mp_two3, mp_two4, aop_makeFunc, plainA, Bool.true_and, sl3, ty3, un3, sl56, ty56, un56, sl85, ty85, un85, sl83, ty83, un83, sl5, ty5, un5, sl2, ty2, un2, sl21, ty21, un21, sl4, ty4, un4, sl9, un9, sl22, ty22, un22, sl55, sl62, sl73, sl77, sl86, ty73, ty39, sl39, ty33, sl33, ty79, sl79, ty67, sl67, inR64, inRu64, inRu32, gs_spec_l20Pack_69, atR_spec_l20Pack, lend_spec_l20Pack, Int.toNat_natCast, List.length_append, List.length_singleton, toNat_succ]
    refine ⟨fun hlt => ?_, fun hge => ?_⟩
    · have hnx := hnext (by omega)
      rw [hnx] at h2
      generalize all.getD i 0 = s at *
      have hgl := pgrw_len (r := all.drop (i + 1)) (u := bor .i64 u s) (l := l ++ [s]) (b := l ++ [s])
      simp only [List.length_append, List.length_singleton, List.length_drop] at hgl
      refine ⟨by omega, fun ha => ?_, fun ha => ⟨by omega, fun hz => ?_, fun hz => ?_⟩⟩
      · have hf : fitP u s = false := by simp [fitP, ha]
        rw [if_neg (by rw [hf]; decide)] at h2
        exact ⟨by omega, klp_of (i + 1, none) (by simp [St.conv, St.bf, getE, putE, getB, cv, cvL, cvB, idx, still, pack, lifts, liftOne, cellsOfB, setB]; rfl) ⟨by simp only; omega, by simp only; omega, h2, h3⟩ (by simp only; omega)⟩
      · have hf : fitP u s = false := by simp [fitP, hz]
        rw [if_neg (by rw [hf]; decide)] at h2
        exact ⟨by omega, klp_of (i + 1, none) (by simp [St.conv, St.bf, getE, putE, getB, cv, cvL, cvB, idx, still, pack, lifts, liftOne, cellsOfB, setB]; rfl) ⟨by simp only; omega, by simp only; omega, h2, h3⟩ (by simp only; omega)⟩
      · have hf : fitP u s = true := by simp [fitP, hz]; omega
        rw [if_pos hf] at h2
        repeat (first | (refine And.intro ?_ ?_; · omega) | (refine And.intro ?_ ?_; · ((repeat' apply And.intro) <;> (show ordB _ _ _ = true; kernel_rfl))) | fail)
        refine ⟨fun hx => ?_, fun hx => ?_⟩
        · have he := pgrw_eq (r := all.drop (i + 1)) (u := bor .i64 u s) (l := l ++ [s]) (b := l ++ [s]) (by simp only [List.length_append, List.length_singleton]; exact hx)
          repeat (first | (refine And.intro ?_ ?_; · omega) | (refine And.intro ?_ ?_; · ((repeat' apply And.intro) <;> (show ordB _ _ _ = true; kernel_rfl))) | fail)
          exact ⟨fun _ => ⟨by omega, klp_of (i + 1, some (l ++ [s])) (by simp [St.conv, St.bf, getE, putE, getB, cv, cvL, cvB, idx, still, pack, lifts, liftOne, cellsOfB, setB]; simp [SC.len, bestV]) ⟨by simp only; omega, by simp only; omega, by rw [bestL_some]; rw [he, comb, if_pos (by simp)] at h2; exact h2, fun b hb => by cases hb; simp; omega⟩ (by simp only; omega)⟩, fun h => absurd (by omega) h⟩
        · repeat (first | (refine And.intro ?_ ?_; · omega) | (refine And.intro ?_ ?_; · ((repeat' apply And.intro) <;> (show ordB _ _ _ = true; kernel_rfl))) | fail)
          exact ⟨fun hgt => ⟨by omega, klp_of (i + 1, some _) (by simp [St.conv, St.bf, getE, putE, getB, cv, cvL, cvB, idx, still, pack, lifts, liftOne, cellsOfB, setB]; rfl) ⟨by simp only; omega, by simp only; omega, by rw [bestL_some]; rw [comb, if_pos (by omega)] at h2; exact h2, fun b hb => by cases hb; omega⟩ (by simp only; omega)⟩, fun hgt => ⟨by omega, klp_of (i + 1, none) (by simp [St.conv, St.bf, getE, putE, getB, cv, cvL, cvB, idx, still, pack, lifts, liftOne, cellsOfB, setB]; rfl) ⟨by simp only; omega, by simp only; omega, by rw [bestL_none]; rw [comb, if_neg (by omega)] at h2; exact h2, h3⟩ (by simp only; omega)⟩⟩
    · have hs := hstop (by omega)
      exact absurd (congrArg List.length (h2.symm.trans hs)) hc
  | some b =>
    simp only [bestV_none, bestV_some, bestL_none, bestL_some] at h2 hstop hnext ⊢
    simp only [kcode_at, kreg_at, bc_skip, bc_seq, bc_cond, bc_block, bc_exit, bc_ret, bc_region, lkX_cons, acond_tmp, aCase_t, aCase_f, aCase_b, afin_nil, cvE_some, resL, resV, resC, cv, cvL, pack, entryE, inPrm, Option.getD_some, acall_clo, add_sp, add_lend, kcall_nil, selOf, selC, selA, inArgs, inA, inL, okA, okL, okBx, okC, outA, outL, outU, outB, deep, deepL, boxIds, AV.bid, List.map_nil, List.map_cons, List.all_nil, List.all_cons, BEq.rfl, Bool.and_true, Bool.true_and, List.append_nil, aops_nil, aops_plain, aops_guard, kont_at, yes_at, no_at, aop_move, aop_assign, aop_pick, aop_alloc, aop_box, aop_build, aop_buildSlice, aop_load, aop_store, aop_nilCheck, aop_binOp, aop_unOp, aop_convert, aop_fieldAddr, aop_indexAddr, aop_slice, aop_extract, aop_makeSlice, aop_len, aop_max, aMax_int, slTy2, SC0, aop_append, aop_call, evalE, getE, putE, getB, setB, St.put, setsB, nth, AV.ofV, AV.blk, AV.bid, AV.one, SC.len, SC.get, List.length_nil, List.length_cons, Nat.reduceEqDiff, Nat.reduceAdd, ↓reduceIte, true_and, and_true, Bool.true_eq_false, Bool.false_eq_true, false_imp_iff, true_imp_iff, decide_eq_true_eq, Bool.not_eq_true', Bool.not_eq_false', decide_eq_false_iff_not, Option.isSome, List.nil_append, List.cons_append, aGuardO_some, aGuard_tt, aGuard_tf, aGuard_ft, aGuard_ff, aGuard_tb, aGuard_fb, aGuard_ts, aGuard_fs, aPick_b, aPick_t, aPick_f, aAlloc_one, aAlloc_flat, aBox_some, aBuild_flat, aInt_add, aBin_add, aInt_sub, aBin_sub, aInt_mul, aBin_mul, aInt_quo, aBin_quo, aInt_rem, aBin_rem, aInt_and, aBin_and, aInt_or, aBin_or, aInt_xor, aBin_xor, aInt_andNot, aBin_andNot, aInt_eql, aBin_eql, aInt_neq, aBin_neq, aInt_lss, aBin_lss, aInt_leq, aBin_leq, aInt_gtr, aBin_gtr, aInt_geq, aBin_geq, aBin_shl, aBin_shr, aShift_shl, aShift_shr, aBin_be1, aBin_bn1, aBin_be2, aBin_bn2, aBin_be3, aBin_bn3, aBin_be4, aBin_bn4, aBin_be5, aBin_bn5, aBin_be6, aBin_bn6, aBin_be7, aBin_bn7, aBin_be8, aBin_bn8, aBin_be9, aBin_bn9, aUn_b, aUn_t, aUn_f, aUn_i, aNil_ptr, aNil_pv, aConv_int, aField_ptr, aField_pv, aIdx_sl, aIdx_prm, aIdx_row, aIdx_drow, aMake_i, aMake_s, aExtr_tup, aLen_ref, aLen_nil, aLen_sl, aLen_prm, aLen_str, aBuildL_some, aBuildS_some, aLoad_1b, aLoad_1d, aLoad_fb, aLoad_fd, aLoad_1p, aLoad_fp, aLoad_ep, aLoad_rr, aLoad_rd, aStore_1, aStore_f, aStore_r, aApp_some, aAppend_nil, aAppend_ref, aSlice_h, aSlice_l, aSlice_lh, aop_slice3, aSlice3_r, aop_field, aFld_agg, aBinW_f, aBinW_t, aWrap_mul, aWrap_add, isW_tmp, isW_mulc, isW_addc, isW_sub, isW_quo, isW_rem, isW_and, isW_or, isW_xor, isW_andNot, isW_shl, isW_shr, isW_eql, isW_neq, isW_lss, isW_leq, isW_gtr, isW_geq, Int.reduceLT, aBinW_dF, aBinW_dT, bc_draw, kregD_at, aopsD_nil, aopsD_plain, aopsD_guard, kontD_at, contD_at, yesD_at, noD_at, splD_bool, splD_undef, splD_skip, splD_int, splD_tt, splD_ff, splD_str, splD_nil, splD_sl, splD_prm, splD_ref, splD_ptr, splD_rp, splD_ep, splD_pv, splD_agg, splD_tup, splD_clo, gD_tt, gD_tf, gD_ft, gD_ff, gD_ts, gD_fs, slotO_some, addTr_nil, addTr_cons, memQ_nil, memQ_cons, clash_nil, clash_cons, regC_none, regC_nil, regC_cons, regR_nil, regR_cons, Int.toNat_zero, Int.toNat_one, rng0, rng1, rng2, rng3, rng4, SC.take, SC.drop, mp_nil, acond_ct, acond_cf, mp_one0, mp_one1, mp_one2, mp_one3, kcall_one, liveB_row, liveB_box, idx, cont, still, dies, lend, lendA, lendDies, snocs, SC.snoc, SC.app, meet, AV.cells, fillA, List.getD_cons_zero, List.getD_cons_succ, List.set_cons_zero, List.set_cons_succ, List.length_singleton, Nat.le_refl, Nat.lt_irrefl, Nat.reduceLT, Nat.reduceLeDiff, Option.map_some, Option.map_none, List.flatMap_nil, List.flatMap_cons, Nat.zero_add, BEq.rfl, kcall_two, mp_two0, mp_two1, mp_two2, mp_two3, mp_two4, aop_makeFunc, plainA, Bool.true_and, sl3, ty3, un3, sl56, ty56, un56, sl85, ty85, un85, sl83, ty83, un83, sl5, ty5, un5, sl2, ty2, un2, sl21, ty21, un21, sl4, ty4, un4, sl9, un9, sl22, ty22, un22, sl55, sl62, sl73, sl77, sl86, ty73, ty39, sl39, ty33, sl33, ty79, sl79, ty67, sl67, inR64, inRu64, inRu32, gs_spec_l20Pack_69, atR_spec_l20Pack, lend_spec_l20Pack, Int.toNat_natCast, List.length_append, List.length_singleton, toNat_succ]
    have h3b := h3 b rfl
    refine ⟨fun hlt => ?_, fun hge => ?_⟩
    · have hnx := hnext (by omega)
      rw [hnx] at h2
      generalize all.getD i 0 = s at *
      have hgl := pgrw_len (r := all.drop (i + 1)) (u := bor .i64 u s) (l := l ++ [s]) (b := l ++ [s])
      simp only [List.length_append, List.length_singleton, List.length_drop] at hgl
      refine ⟨by omega, fun ha => ?_, fun ha => ⟨by omega, fun hz => ?_, fun hz => ?_⟩⟩
      · have hf : fitP u s = false := by simp [fitP, ha]
        rw [if_neg (by rw [hf]; decide)] at h2
        exact ⟨by omega, klp_of (i + 1, some b) (by simp [St.conv, St.bf, getE, putE, getB, cv, cvL, cvB, idx, still, pack, lifts, liftOne, cellsOfB, setB]; rfl) ⟨by simp only; omega, by simp only; omega, h2, h3⟩ (by simp only; omega)⟩
      · have hf : fitP u s = false := by simp [fitP, hz]
        rw [if_neg (by rw [hf]; decide)] at h2
        exact ⟨by omega, klp_of (i + 1, some b) (by simp [St.conv, St.bf, getE, putE, getB, cv, cvL, cvB, idx, still, pack, lifts, liftOne, cellsOfB, setB]; rfl) ⟨by simp only; omega, by simp only; omega, h2, h3⟩ (by simp only; omega)⟩
      · have hf : fitP u s = true := by simp [fitP, hz]; omega
        rw [if_pos hf] at h2
        repeat (first | (refine And.intro ?_ ?_; · omega) | (refine And.intro ?_ ?_; · ((repeat' apply And.intro) <;> (show ordB _ _ _ = true; kernel_rfl))) | fail)
        refine ⟨fun hx => ?_, fun hx => ?_⟩
        · have he := pgrw_eq (r := all.drop (i + 1)) (u := bor .i64 u s) (l := l ++ [s]) (b := l ++ [s]) (by simp only [List.length_append, List.length_singleton]; exact hx)
          repeat (first | (refine And.intro ?_ ?_; · omega) | (refine And.intro ?_ ?_; · ((repeat' apply And.intro) <;> (show ordB _ _ _ = true; kernel_rfl))) | fail)
          exact fun _ => ⟨by omega, klp_of (i + 1, some b) (by simp [St.conv, St.bf, getE, putE, getB, cv, cvL, cvB, idx, still, pack, lifts, liftOne, cellsOfB, setB]; rfl) ⟨by simp only; omega, by simp only; omega, by rw [bestL_some]; rw [he, comb, if_neg (by simp; omega)] at h2; exact h2, h3⟩ (by simp only; omega)⟩
        · repeat (first | (refine And.intro ?_ ?_; · omega) | (refine And.intro ?_ ?_; · ((repeat' apply And.intro) <;> (show ordB _ _ _ = true; kernel_rfl))) | fail)
          exact ⟨fun hgt => ⟨by omega, klp_of (i + 1, some _) (by simp [St.conv, St.bf, getE, putE, getB, cv, cvL, cvB, idx, still, pack, lifts, liftOne, cellsOfB, setB]; rfl) ⟨by simp only; omega, by simp only; omega, by rw [bestL_some]; rw [comb, if_pos (by omega)] at h2; exact h2, fun b hb => by cases hb; omega⟩ (by simp only; omega)⟩, fun hgt => ⟨by omega, klp_of (i + 1, some b) (by simp [St.conv, St.bf, getE, putE, getB, cv, cvL, cvB, idx, still, pack, lifts, liftOne, cellsOfB, setB]; rfl) ⟨by simp only; omega, by simp only; omega, by rw [bestL_some]; rw [comb, if_neg (by omega)] at h2; exact h2, h3⟩ (by simp only; omega)⟩⟩
    · have hs := hstop (by omega)
      rw [← h2, hs]
theorem runs_spec_l20Pack_aux : ∀ (N : Nat) (all : List Int) (from_ u : Int) (l : List Int) (hp1 : 0 ≤ from_ ∧ from_ ≤ all.length) (hp2 : (l.length : Int) + all.length ≤ 1048576 + from_ ∧ all.length ≤ 1048576) (hm : all.length - from_.toNat = N), (((pgrw (all.drop from_.toNat) u l l).length = l.length) → ARuns Try.prog 69 [.sl none (.ints .i64 all), .int .i64 from_, .int .i64 u, .sl none (.ints .i64 l)] [] (.prm 3 (.ints .i64 l)) []) ∧ ((¬ (pgrw (all.drop from_.toNat) u l l).length = l.length) → ARuns Try.prog 69 [.sl none (.ints .i64 all), .int .i64 from_, .int .i64 u, .sl none (.ints .i64 l)] [] (.sl (some 3) (.ints .i64 (pgrw (all.drop from_.toNat) u l l))) []) := by
  intro N
  induction N using Nat.strongRecOn with
  | _ N ih =>
  have hok : (G_spec_l20Pack N).ok Try.prog := Gm.add_ok Gm.none_ok (by
    intro args giv K hk
    unfold spR_spec_l20Pack at hk
    split at hk
    · obtain ⟨hlt, hp1, hp2, hk1, hk2⟩ := hk
      exact pk_em (fun hc => ⟨_, _, (ih _ hlt _ _ _ _ hp1 hp2 rfl).1 hc, hk1 hc⟩) (fun hc => ⟨_, _, (ih _ hlt _ _ _ _ hp1 hp2 rfl).2 hc, hk2 hc⟩)
    · exact hk.elim)
  intro all from_ u l hp1 hp2 hm
  exact ⟨fun hc => runs_spec_l20Pack_1_st hok all from_ u l hp1 hp2 hc hm, fun hc => runs_spec_l20Pack_2_st hok all from_ u l hp1 hp2 hc hm⟩
theorem runs_spec_l20Pack_1 (all : List Int) (from_ u : Int) (l : List Int) (hp1 : 0 ≤ from_ ∧ from_ ≤ all.length) (hp2 : (l.length : Int) + all.length ≤ 1048576 + from_ ∧ all.length ≤ 1048576) (hc : (pgrw (all.drop from_.toNat) u l l).length = l.length) : ARuns Try.prog 69 [.sl none (.ints .i64 all), .int .i64 from_, .int .i64 u, .sl none (.ints .i64 l)] [] (.prm 3 (.ints .i64 l)) [] := (runs_spec_l20Pack_aux _ all from_ u l hp1 hp2 rfl).1 hc
theorem runs_spec_l20Pack_2 (all : List Int) (from_ u : Int) (l : List Int) (hp1 : 0 ≤ from_ ∧ from_ ≤ all.length) (hp2 : (l.length : Int) + all.length ≤ 1048576 + from_ ∧ all.length ≤ 1048576) (hc : ¬ (pgrw (all.drop from_.toNat) u l l).length = l.length) : ARuns Try.prog 69 [.sl none (.ints .i64 all), .int .i64 from_, .int .i64 u, .sl none (.ints .i64 l)] [] (.sl (some 3) (.ints .i64 (pgrw (all.drop from_.toNat) u l l))) [] := (runs_spec_l20Pack_aux _ all from_ u l hp1 hp2 rfl).2 hc
def sp_spec_l20Pack : List AV → List Bx → (AV → List Bx → Prop) → Prop
  | [.sl none (.ints .i64 all), .int .i64 from_, .int .i64 u, .sl none (.ints .i64 l)], [], K => (0 ≤ from_ ∧ from_ ≤ all.length) ∧ ((l.length : Int) + all.length ≤ 1048576 + from_ ∧ all.length ≤ 1048576) ∧ ((pgrw (all.drop from_.toNat) u l l).length = l.length → K (.prm 3 (.ints .i64 l)) []) ∧ (¬ (pgrw (all.drop from_.toNat) u l l).length = l.length → K (.sl (some 3) (.ints .i64 (pgrw (all.drop from_.toNat) u l l))) [])
  | _, _, _ => False
theorem at_spec_l20Pack {all : List Int} {from_ u : Int} {l : List Int} {K : AV → List Bx → Prop} : sp_spec_l20Pack [.sl none (.ints .i64 all), .int .i64 from_, .int .i64 u, .sl none (.ints .i64 l)] [] K = ((0 ≤ from_ ∧ from_ ≤ all.length) ∧ ((l.length : Int) + all.length ≤ 1048576 + from_ ∧ all.length ≤ 1048576) ∧ ((pgrw (all.drop from_.toNat) u l l).length = l.length → K (.prm 3 (.ints .i64 l)) []) ∧ (¬ (pgrw (all.drop from_.toNat) u l l).length = l.length → K (.sl (some 3) (.ints .i64 (pgrw (all.drop from_.toNat) u l l))) [])) := id rfl
theorem ok_spec_l20Pack : ∀ args giv K, sp_spec_l20Pack args giv K → ∃ r outs, ARuns Try.prog 69 args giv r outs ∧ K r outs := by
  intro args giv K hk
  unfold sp_spec_l20Pack at hk
  split at hk
  · obtain ⟨hp1, hp2, hk1, hk2⟩ := hk
    exact pk_em (fun hc => ⟨_, _, runs_spec_l20Pack_1 _ _ _ _ hp1 hp2 hc, hk1 hc⟩) (fun hc => ⟨_, _, runs_spec_l20Pack_2 _ _ _ _ hp1 hp2 hc, hk2 hc⟩)
  · exact hk.elim
theorem is_spec_PackingNumber : FnIs Try.prog 33 17 [.tmp 2, .tmp 3, .tmp 4] (Try.f33.body.getD .skip) := ⟨⟨Try.f33, by kernel_rfl, by kernel_rfl, by kernel_rfl, by kernel_rfl⟩, by kernel_rfl, by kernel_rfl⟩
def G_spec_PackingNumber : Gm := ((Gm.none.add 68 lend_spec_IsFamily sp_spec_IsFamily).add 69 lend_spec_l20Pack sp_spec_l20Pack)
theorem G_spec_PackingNumber_ok : G_spec_PackingNumber.ok Try.prog := (Gm.add_ok (Gm.add_ok Gm.none_ok ok_spec_IsFamily) ok_spec_l20Pack)
theorem gs_spec_PackingNumber_68 : G_spec_PackingNumber.sp 68 = sp_spec_IsFamily ∧ G_spec_PackingNumber.lend 68 = lend_spec_IsFamily := ⟨rfl, rfl⟩
theorem gs_spec_PackingNumber_69 : G_spec_PackingNumber.sp 69 = sp_spec_l20Pack ∧ G_spec_PackingNumber.lend 69 = lend_spec_l20Pack := ⟨rfl, rfl⟩
set_option maxHeartbeats 1000000 in
set_option maxRecDepth 100000 in
theorem runs_spec_PackingNumber (n : Int) (xs : List Int) (hp1 : xs.length ≤ 1048576) : ARuns Try.prog 33 [.agg [.int .i64 n, .sl none (.ints .i64 xs)]] [] (.tup [.int .i64 (pkL n xs).length, .sl (some 3) (.ints .i64 (pkL n xs)), .bool (famB n xs)]) [] := by
  refine ARuns_bcL G_spec_PackingNumber_ok is_spec_PackingNumber (by simp) fun hl hlB => ?_
  simp only [kcode_at, kreg_at, bc_skip, bc_seq, bc_cond, bc_block, bc_exit, bc_ret, bc_region, lkX_cons, acond_tmp, aCase_t, aCase_f, aCase_b, afin_nil, cvE_some, resL, resV, resC, cv, cvL, pack, entryE, inPrm, Option.getD_some, acall_clo, add_sp, add_lend, kcall_nil, selOf, selC, selA, inArgs, inA, inL, okA, okL, okBx, okC, outA, outL, outU, outB, deep, deepL, boxIds, AV.bid, List.map_nil, List.map_cons, List.all_nil, List.all_cons, BEq.rfl, Bool.and_true, Bool.true_and, List.append_nil, aops_nil, aops_plain, aops_guard, kont_at, yes_at, no_at, aop_move, aop_assign, aop_pick, aop_alloc, aop_box, aop_build, aop_buildSlice, aop_load, aop_store, aop_nilCheck, aop_binOp, aop_unOp, aop_convert, aop_fieldAddr, aop_indexAddr, aop_slice, aop_extract, aop_makeSlice, aop_len, aop_max, aMax_int, slTy2, SC0, aop_append, aop_call, evalE, getE, putE, getB, setB, St.put, setsB, nth, AV.ofV, AV.blk, AV.bid, AV.one, SC.len, SC.get, List.length_nil, List.length_cons, Nat.reduceEqDiff, Nat.reduceAdd, ↓reduceIte, true_and, and_true, Bool.true_eq_false, Bool.false_eq_true, false_imp_iff, true_imp_iff, decide_eq_true_eq, Bool.not_eq_true', Bool.not_eq_false', decide_eq_false_iff_not, Option.isSome, List.nil_append, List.cons_append, aGuardO_some, aGuard_tt, aGuard_tf, aGuard_ft, aGuard_ff, aGuard_tb, aGuard_fb, aGuard_ts, aGuard_fs, aPick_b, aPick_t, aPick_f, aAlloc_one, aAlloc_flat, aBox_some, aBuild_flat, aInt_add, aBin_add, aInt_sub, aBin_sub, aInt_mul, aBin_mul, aInt_quo, aBin_quo, aInt_rem, aBin_rem, aInt_and, aBin_and, aInt_or, aBin_or, aInt_xor, aBin_xor, aInt_andNot, aBin_andNot, aInt_eql, aBin_eql, aInt_neq, aBin_neq, aInt_lss, aBin_lss, aInt_leq, aBin_leq, aInt_gtr, aBin_gtr, aInt_geq, aBin_geq, aBin_shl, aBin_shr, aShift_shl, aShift_shr, aBin_be1, aBin_bn1, aBin_be2, aBin_bn2, aBin_be3, aBin_bn3, aBin_be4, aBin_bn4, aBin_be5, aBin_bn5, aBin_be6, aBin_bn6, aBin_be7, aBin_bn7, aBin_be8, aBin_bn8, aBin_be9, aBin_bn9, aUn_b, aUn_t, aUn_f, aUn_i, aNil_ptr, aNil_pv, aConv_int, aField_ptr, aField_pv, aIdx_sl, aIdx_prm, aIdx_row, aIdx_drow, aMake_i, aMake_s, aExtr_tup, aLen_ref, aLen_nil, aLen_sl, aLen_prm, aLen_str, aBuildL_some, aBuildS_some, aLoad_1b, aLoad_1d, aLoad_fb, aLoad_fd, aLoad_1p, aLoad_fp, aLoad_ep, aLoad_rr, aLoad_rd, aStore_1, aStore_f, aStore_r, aApp_some, aAppend_nil, aAppend_ref, aSlice_h, aSlice_l, aSlice_lh, aop_slice3, aSlice3_r, aop_field, aFld_agg, aBinW_f, aBinW_t, aWrap_mul, aWrap_add, isW_tmp, isW_mulc, isW_addc, isW_sub, isW_quo, isW_rem, isW_and, isW_or, isW_xor, isW_andNot, isW_shl, isW_shr, isW_eql, isW_neq, isW_lss, isW_leq, isW_gtr, isW_geq, Int.reduceLT, aBinW_dF, aBinW_dT, bc_draw, kregD_at, aopsD_nil, aopsD_plain, aopsD_guard, kontD_at, contD_at, yesD_at, noD_at, splD_bool, splD_undef, splD_skip, splD_int, splD_tt, splD_ff, splD_str, splD_nil, splD_sl, splD_prm, splD_ref, splD_ptr, splD_rp, splD_ep, splD_pv, splD_agg, splD_tup, splD_clo, gD_tt, gD_tf, gD_ft, gD_ff, gD_ts, gD_fs, slotO_some, addTr_nil, addTr_cons, memQ_nil, memQ_cons, clash_nil, clash_cons, regC_none, regC_nil, regC_cons, regR_nil, regR_cons, Int.toNat_zero, Int.toNat_one, rng0, rng1, rng2, rng3, rng4, SC.take, SC.drop, mp_nil, acond_ct, acond_cf, mp_one0, mp_one1, mp_one2, mp_one3, kcall_one, liveB_row, liveB_box, idx, cont, still, dies, lend, lendA, lendDies, snocs, SC.snoc, SC.app, meet, AV.cells, fillA, List.getD_cons_zero, List.getD_cons_succ, List.set_cons_zero, List.set_cons_succ, List.length_singleton, Nat.le_refl, Nat.lt_irrefl, Nat.reduceLT, Nat.reduceLeDiff, Option.map_some, Option.map_none, List.flatMap_nil, List.flatMap_cons, Nat.zero_add, BEq.rfl, kcall_two, mp_two0, mp_two1, mp_two2, mp_two3, mp_two4, aop_makeFunc, plainA, Bool.true_and, sl3, ty3, un3, sl56, ty56, un56, sl85, ty85, un85, sl83, ty83, un83, sl5, ty5, un5, sl2, ty2, un2, sl21, ty21, un21, sl4, ty4, un4, sl9, un9, sl22, ty22, un22, sl55, sl62, sl73, sl77, sl86, ty73, ty39, sl39, ty33, sl33, ty79, sl79, ty67, sl67, inR64, inRu64, inRu32, gs_spec_PackingNumber_68, at_spec_IsFamily, lend_spec_IsFamily, gs_spec_PackingNumber_69, at_spec_l20Pack, lend_spec_l20Pack, Try.f33]
  refine ⟨fun hf => ?_, fun hf => ?_⟩
  · have e1 : pkL n xs = [] := by simp [pkL, hf]
    rw [e1, hf]
    ((repeat' apply And.intro) <;> first | exact afinL_of [] [] rfl rfl (by simp only [resL, resV, resC, getE, putE, getB, setB, lifts, liftOne, cellsOfB, List.length_cons, List.length_nil, List.nil_append, List.cons_append, Nat.reduceAdd, Nat.reduceEqDiff, ↓reduceIte, ty3, ty56, ty85, ty83, ty5, ty2, ty21, ty4, ty22, ty73, ty39, ty33, ty79, ty67]; rfl) (by simp [St.conv, St.bf, getE, putE, getB, cv, cvL, cvB, idx, still, pack, lifts, liftOne, cellsOfB, setB] <;> first | assumption | rfl) (by simp [St.conv, St.bf, getE, putE, getB, cv, cvL, cvB, idx, still, pack, lifts, liftOne, cellsOfB, setB]) | rfl | omega | assumption | (show ordB _ _ _ = true; kernel_rfl))
  · have e1 : pkL n xs = pgrw xs 0 [] [] := by simp [pkL, hf]
    rw [e1, hf, List.drop_zero]
    refine ⟨by omega, by omega, fun hz => ?_, fun hz => ?_⟩
    · have ez := List.length_eq_zero_iff.1 hz
      rw [ez]
      ((repeat' apply And.intro) <;> first | exact afinL_of [] [] rfl rfl (by simp only [resL, resV, resC, getE, putE, getB, setB, lifts, liftOne, cellsOfB, List.length_cons, List.length_nil, List.nil_append, List.cons_append, Nat.reduceAdd, Nat.reduceEqDiff, ↓reduceIte, ty3, ty56, ty85, ty83, ty5, ty2, ty21, ty4, ty22, ty73, ty39, ty33, ty79, ty67]; rfl) (by simp [St.conv, St.bf, getE, putE, getB, cv, cvL, cvB, idx, still, pack, lifts, liftOne, cellsOfB, setB] <;> first | assumption | rfl) (by simp [St.conv, St.bf, getE, putE, getB, cv, cvL, cvB, idx, still, pack, lifts, liftOne, cellsOfB, setB]) | rfl | omega | assumption | (show ordB _ _ _ = true; kernel_rfl))
    · ((repeat' apply And.intro) <;> first | exact afinL_of [] [] rfl rfl (by simp only [resL, resV, resC, getE, putE, getB, setB, lifts, liftOne, cellsOfB, List.length_cons, List.length_nil, List.nil_append, List.cons_append, Nat.reduceAdd, Nat.reduceEqDiff, ↓reduceIte, ty3, ty56, ty85, ty83, ty5, ty2, ty21, ty4, ty22, ty73, ty39, ty33, ty79, ty67]; rfl) (by simp [St.conv, St.bf, getE, putE, getB, cv, cvL, cvB, idx, still, pack, lifts, liftOne, cellsOfB, setB] <;> first | assumption | rfl) (by simp [St.conv, St.bf, getE, putE, getB, cv, cvL, cvB, idx, still, pack, lifts, liftOne, cellsOfB, setB]) | rfl | omega | assumption | (show ordB _ _ _ = true; kernel_rfl))
def lend_spec_PackingNumber : List Nat := []
def sp_spec_PackingNumber : List AV → List Bx → (AV → List Bx → Prop) → Prop
  | [.agg [.int .i64 n, .sl none (.ints .i64 xs)]], [], K => (xs.length ≤ 1048576) ∧ K (.tup [.int .i64 (pkL n xs).length, .sl (some 3) (.ints .i64 (pkL n xs)), .bool (famB n xs)]) []
  | _, _, _ => False
theorem at_spec_PackingNumber {n : Int} {xs : List Int} {K : AV → List Bx → Prop} : sp_spec_PackingNumber [.agg [.int .i64 n, .sl none (.ints .i64 xs)]] [] K = ((xs.length ≤ 1048576) ∧ K (.tup [.int .i64 (pkL n xs).length, .sl (some 3) (.ints .i64 (pkL n xs)), .bool (famB n xs)]) []) := id rfl
theorem ok_spec_PackingNumber : ∀ args giv K, sp_spec_PackingNumber args giv K → ∃ r outs, ARuns Try.prog 33 args giv r outs ∧ K r outs := by
  intro args giv K hk
  unfold sp_spec_PackingNumber at hk
  split at hk
  · obtain ⟨hp1, hk⟩ := hk; exact ⟨_, _, runs_spec_PackingNumber _ _ hp1, hk⟩
  · exact hk.elim
theorem is_laws_toIntS : FnIs Try.prog 16 22 [.tmp 2] (Try.f16.body.getD .skip) := ⟨⟨Try.f16, by kernel_rfl, by kernel_rfl, by kernel_rfl, by kernel_rfl⟩, by kernel_rfl, by kernel_rfl⟩
def G_laws_toIntS : Gm := Gm.none
theorem G_laws_toIntS_ok : G_laws_toIntS.ok Try.prog := Gm.none_ok
set_option maxHeartbeats 1000000 in
set_option maxRecDepth 100000 in
theorem runs_laws_toIntS (xs : List Int) (hp1 : xs.length ≤ 1099511627776) : ARuns Try.prog 16 [.sl none (.ints .i64 xs)] [] (.ref 0 xs.length) [.row 3 (.ints .i64 xs)] := by
  refine ARuns_bc G_laws_toIntS_ok is_laws_toIntS (by simp) fun hl hlB => ?_
  simp only [kcode_at, kreg_at, bc_skip, bc_seq, bc_cond, bc_block, bc_exit, bc_ret, bc_region, lkX_cons, acond_tmp, aCase_t, aCase_f, aCase_b, afin_nil, cvE_some, resL, resV, resC, cv, cvL, pack, entryE, inPrm, Option.getD_some, acall_clo, add_sp, add_lend, kcall_nil, selOf, selC, selA, inArgs, inA, inL, okA, okL, okBx, okC, outA, outL, outU, outB, deep, deepL, boxIds, AV.bid, List.map_nil, List.map_cons, List.all_nil, List.all_cons, BEq.rfl, Bool.and_true, Bool.true_and, List.append_nil, aops_nil, aops_plain, aops_guard, kont_at, yes_at, no_at, aop_move, aop_assign, aop_pick, aop_alloc, aop_box, aop_build, aop_buildSlice, aop_load, aop_store, aop_nilCheck, aop_binOp, aop_unOp, aop_convert, aop_fieldAddr, aop_indexAddr, aop_slice, aop_extract, aop_makeSlice, aop_len, aop_max, aMax_int, slTy2, SC0, aop_append, aop_call, evalE, getE, putE, getB, setB, St.put, setsB, nth, AV.ofV, AV.blk, AV.bid, AV.one, SC.len, SC.get, List.length_nil, List.length_cons, Nat.reduceEqDiff, Nat.reduceAdd, ↓reduceIte, true_and, and_true, Bool.true_eq_false, Bool.false_eq_true, false_imp_iff, true_imp_iff, decide_eq_true_eq, Bool.not_eq_true', Bool.not_eq_false', decide_eq_false_iff_not, Option.isSome, List.nil_append, List.cons_append, aGuardO_some, aGuard_tt, aGuard_tf, aGuard_ft, aGuard_ff, aGuard_tb, aGuard_fb, aGuard_ts, aGuard_fs, aPick_b, aPick_t, aPick_f, aAlloc_one, aAlloc_flat, aBox_some, aBuild_flat, aInt_add, aBin_add, aInt_sub, aBin_sub, aInt_mul, aBin_mul, aInt_quo, aBin_quo, aInt_rem, aBin_rem, aInt_and, aBin_and, aInt_or, aBin_or, aInt_xor, aBin_xor, aInt_andNot, aBin_andNot, aInt_eql, aBin_eql, aInt_neq, aBin_neq, aInt_lss, aBin_lss, aInt_leq, aBin_leq, aInt_gtr, aBin_gtr, aInt_geq, aBin_geq, aBin_shl, aBin_shr, aShift_shl, aShift_shr, aBin_be1, aBin_bn1, aBin_be2, aBin_bn2, aBin_be3, aBin_bn3, aBin_be4, aBin_bn4, aBin_be5, aBin_bn5, aBin_be6, aBin_bn6, aBin_be7, aBin_bn7, aBin_be8, aBin_bn8, aBin_be9, aBin_bn9, aUn_b, aUn_t, aUn_f, aUn_i, aNil_ptr, aNil_pv, aConv_int, aField_ptr, aField_pv, aIdx_sl, aIdx_prm, aIdx_row, aIdx_drow, aMake_i, aMake_s, aExtr_tup, aLen_ref, aLen_nil, aLen_sl, aLen_prm, aLen_str, aBuildL_some, aBuildS_some, aLoad_1b, aLoad_1d, aLoad_fb, aLoad_fd, aLoad_1p, aLoad_fp, aLoad_ep, aLoad_rr, aLoad_rd, aStore_1, aStore_f, aStore_r, aApp_some, aAppend_nil, aAppend_ref, aSlice_h, aSlice_l, aSlice_lh, aop_slice3, aSlice3_r, aop_field, aFld_agg, aBinW_f, aBinW_t, aWrap_mul, aWrap_add, isW_tmp, isW_mulc, isW_addc, isW_sub, isW_quo, isW_rem, isW_and, isW_or, isW_xor, isW_andNot, isW_shl, isW_shr, isW_eql, isW_neq, isW_lss, isW_leq, isW_gtr, isW_geq, Int.reduceLT, aBinW_dF, aBinW_dT, bc_draw, kregD_at, aopsD_nil, aopsD_plain, aopsD_guard, kontD_at, contD_at, yesD_at, noD_at, splD_bool, splD_undef, splD_skip, splD_int, splD_tt, splD_ff, splD_str, splD_nil, splD_sl, splD_prm, splD_ref, splD_ptr, splD_rp, splD_ep, splD_pv, splD_agg, splD_tup, splD_clo, gD_tt, gD_tf, gD_ft, gD_ff, gD_ts, gD_fs, slotO_some, addTr_nil, addTr_cons, memQ_nil, memQ_cons, clash_nil, clash_cons, regC_none, regC_nil, regC_cons, regR_nil, regR_cons, Int.toNat_zero, Int.toNat_one, rng0, rng1, rng2, rng3, rng4, SC.take, SC.drop, mp_nil, acond_ct, acond_cf, mp_one0, mp_one1, mp_one2, mp_one3, kcall_one, liveB_row, liveB_box, idx, cont, still, dies, lend, lendA, lendDies, snocs, SC.snoc, SC.app, meet, AV.cells, fillA, List.getD_cons_zero, List.getD_cons_succ, List.set_cons_zero, List.set_cons_succ, List.length_singleton, Nat.le_refl, Nat.lt_irrefl, Nat.reduceLT, Nat.reduceLeDiff, Option.map_some, Option.map_none, List.flatMap_nil, List.flatMap_cons, Nat.zero_add, BEq.rfl, kcall_two, mp_two0, mp_two1, mp_two2, mp_two3, mp_two4, aop_makeFunc, plainA, Bool.true_and, sl3, ty3, un3, sl56, ty56, un56, sl85, ty85, un85, sl83, ty83, un83, sl5, ty5, un5, sl2, ty2, un2, sl21, ty21, un21, sl4, ty4, un4, sl9, un9, sl22, ty22, un22, sl55, sl62, sl73, sl77, sl86, ty73, ty39, sl39, ty33, sl33, ty79, sl79, ty67, sl67, inR64, inRu64, inRu32, Try.f16]
  refine ⟨⟨by omega, by omega, by omega⟩, ?_⟩
  refine bc_loop (fun i : Nat => i ≤ xs.length)
    (fun i => ⟨[(0, .prm 0 (.ints .i64 xs)), (3, .ref 0 xs.length), (4, .int .i64 i)], [.row 3 (.ints .i64 (xs.take i ++ List.replicate (xs.length - i) 0))]⟩) (fun i => xs.length - i)
    [0, 3, 4] [0] 0 rfl (by simp [St.conv, St.bf, getE, putE, getB, cv, cvL, cvB, idx, still, pack, lifts, liftOne, cellsOfB, setB]) (by simp) fun i h1 => ?_
  simp only [kcode_at, kreg_at, bc_skip, bc_seq, bc_cond, bc_block, bc_exit, bc_ret, bc_region, lkX_cons, acond_tmp, aCase_t, aCase_f, aCase_b, afin_nil, cvE_some, resL, resV, resC, cv, cvL, pack, entryE, inPrm, Option.getD_some, acall_clo, add_sp, add_lend, kcall_nil, selOf, selC, selA, inArgs, inA, inL, okA, okL, okBx, okC, outA, outL, outU, outB, deep, deepL, boxIds, AV.bid, List.map_nil, List.map_cons, List.all_nil, List.all_cons, BEq.rfl, Bool.and_true, Bool.true_and, List.append_nil, aops_nil, aops_plain, aops_guard, kont_at, yes_at, no_at, aop_move, aop_assign, aop_pick, aop_alloc, aop_box, aop_build, aop_buildSlice, aop_load, aop_store, aop_nilCheck, aop_binOp, aop_unOp, aop_convert, aop_fieldAddr, aop_indexAddr, aop_slice, aop_extract, aop_makeSlice, aop_len, aop_max, aMax_int, slTy2, SC0, aop_append, aop_call, evalE, getE, putE, getB, setB, St.put, setsB, nth, AV.ofV, AV.blk, AV.bid, AV.one, SC.len, SC.get, List.length_nil, List.length_cons, Nat.reduceEqDiff, Nat.reduceAdd, ↓reduceIte, true_and, and_true, Bool.true_eq_false, Bool.false_eq_true, false_imp_iff, true_imp_iff, decide_eq_true_eq, Bool.not_eq_true', Bool.not_eq_false', decide_eq_false_iff_not, Option.isSome, List.nil_append, List.cons_append, aGuardO_some, aGuard_tt, aGuard_tf, aGuard_ft, aGuard_ff, aGuard_tb, aGuard_fb, aGuard_ts, aGuard_fs, aPick_b, aPick_t, aPick_f, aAlloc_one, aAlloc_flat, aBox_some, aBuild_flat, aInt_add, aBin_add, aInt_sub, aBin_sub, aInt_mul, aBin_mul, aInt_quo, aBin_quo, aInt_rem, aBin_rem, aInt_and, aBin_and, aInt_or, aBin_or, aInt_xor, aBin_xor, aInt_andNot, aBin_andNot, aInt_eql, aBin_eql, aInt_neq, aBin_neq, aInt_lss, aBin_lss, aInt_leq, aBin_leq, aInt_gtr, aBin_gtr, aInt_geq, aBin_geq, aBin_shl, aBin_shr, aShift_shl, aShift_shr, aBin_be1, aBin_bn1, aBin_be2, aBin_bn2, aBin_be3, aBin_bn3, aBin_be4, aBin_bn4, aBin_be5, aBin_bn5, aBin_be6, aBin_bn6, aBin_be7, aBin_bn7, aBin_be8, aBin_bn8, aBin_be9, aBin_bn9, aUn_b, aUn_t, aUn_f, aUn_i, aNil_ptr, aNil_pv, aConv_int, aField_ptr, aField_pv, aIdx_sl, aIdx_prm, aIdx_row, aIdx_drow, aMake_i, aMake_s, aExtr_tup, aLen_ref, aLen_nil, aLen_sl, aLen_prm, aLen_str, aBuildL_some, aBuildS_some, aLoad_1b, aLoad_1d, aLoad_fb, aLoad_fd, aLoad_1p, aLoad_fp, aLoad_ep, aLoad_rr, aLoad_rd, aStore_1, aStore_f, aStore_r, aApp_some, aAppend_nil, aAppend_ref, aSlice_h, aSlice_l, aSlice_lh, aop_slice3, aSlice3_r, aop_field, aFld_agg, aBinW_f, aBinW_t, aWrap_mul, aWrap_add, isW_tmp, isW_mulc, isW_addc, isW_sub, isW_quo, isW_rem, isW_and, isW_or, isW_xor, isW_andNot, isW_shl, isW_shr, isW_eql, isW_neq, isW_lss, isW_leq, isW_gtr, isW_geq, Int.reduceLT, aBinW_dF, aBinW_dT, bc_draw, kregD_at, aopsD_nil, aopsD_plain, aopsD_guard, kontD_at, contD_at, yesD_at, noD_at, splD_bool, splD_undef, splD_skip, splD_int, splD_tt, splD_ff, splD_str, splD_nil, splD_sl, splD_prm, splD_ref, splD_ptr, splD_rp, splD_ep, splD_pv, splD_agg, splD_tup, splD_clo, gD_tt, gD_tf, gD_ft, gD_ff, gD_ts, gD_fs, slotO_some, addTr_nil, addTr_cons, memQ_nil, memQ_cons, clash_nil, clash_cons, regC_none, regC_nil, regC_cons, regR_nil, regR_cons, Int.toNat_zero, Int.toNat_one, rng0, rng1, rng2, rng3, rng4, SC.take, SC.drop, mp_nil, acond_ct, acond_cf, mp_one0, mp_one1, mp_one2, mp_one3, kcall_one, liveB_row, liveB_box, idx, cont, still, dies, lend, lendA, lendDies, snocs, SC.snoc, SC.app, meet, AV.cells, fillA, List.getD_cons_zero, List.getD_cons_succ, List.set_cons_zero, List.set_cons_succ, List.length_singleton, Nat.le_refl, Nat.lt_irrefl, Nat.reduceLT, Nat.reduceLeDiff, Option.map_some, Option.map_none, List.flatMap_nil, List.flatMap_cons, Nat.zero_add, BEq.rfl, kcall_two, mp_two0, mp_two1, mp_two2, mp_two3, mp_two4, aop_makeFunc, plainA, Bool.true_and, sl3, ty3, un3, sl56, ty56, un56, sl85, ty85, un85, sl83, ty83, un83, sl5, ty5, un5, sl2, ty2, un2, sl21, ty21, un21, sl4, ty4, un4, sl9, un9, sl22, ty22, un22, sl55, sl62, sl73, sl77, sl86, ty73, ty39, sl39, ty33, sl33, ty79, sl79, ty67, sl67, inR64, inRu64, inRu32]
  simp only [lensA, lenA, lenSC] at hl
  have e : (xs.take i ++ List.replicate (xs.length - i) (0 : Int)).length = xs.length := by simp; omega
  refine ⟨fun h => ⟨by omega, ⟨e, by omega, by omega⟩, ⟨e, by omega⟩, by omega, ?_⟩, fun h => ?_⟩
  · refine klp_of (i + 1) ?_ (by omega) (by omega)
    have := copy_step (xs := xs) (i := i) (by omega)
    simp [St.conv, St.bf, getE, putE, getB, cv, cvL, cvB, idx, still, pack, lifts, liftOne, cellsOfB, setB]
    simpa using this
  · have : i = xs.length := by omega
    subst this
    refine afin_of [0] rfl rfl (by simp [St.conv, St.bf, getE, putE, getB, cv, cvL, cvB, idx, still, pack, lifts, liftOne, cellsOfB, setB]) (by simp [St.conv, St.bf, getE, putE, getB, cv, cvL, cvB, idx, still, pack, lifts, liftOne, cellsOfB, setB])
def lend_laws_toIntS : List Nat := []
def sp_laws_toIntS : List AV → List Bx → (AV → List Bx → Prop) → Prop
  | [.sl none (.ints .i64 xs)], [], K => (xs.length ≤ 1099511627776) ∧ K (.ref 0 xs.length) [.row 3 (.ints .i64 xs)]
  | _, _, _ => False
theorem at_laws_toIntS {xs : List Int} {K : AV → List Bx → Prop} : sp_laws_toIntS [.sl none (.ints .i64 xs)] [] K = ((xs.length ≤ 1099511627776) ∧ K (.ref 0 xs.length) [.row 3 (.ints .i64 xs)]) := id rfl
theorem ok_laws_toIntS : ∀ args giv K, sp_laws_toIntS args giv K → ∃ r outs, ARuns Try.prog 16 args giv r outs ∧ K r outs := by
  intro args giv K hk
  unfold sp_laws_toIntS at hk
  split at hk
  · obtain ⟨hp1, hk⟩ := hk; exact ⟨_, _, runs_laws_toIntS _ hp1, hk⟩
  · exact hk.elim
theorem is_laws_toFamily : FnIs Try.prog 34 12 [ResultVar.cell 2 33] (Try.f34.body.getD .skip) := ⟨⟨Try.f34, by kernel_rfl, by kernel_rfl, by kernel_rfl, by kernel_rfl⟩, by kernel_rfl, by kernel_rfl⟩
def G_laws_toFamily : Gm := (Gm.none.add 16 lend_laws_toIntS sp_laws_toIntS)
theorem G_laws_toFamily_ok : G_laws_toFamily.ok Try.prog := (Gm.add_ok Gm.none_ok ok_laws_toIntS)
theorem gs_laws_toFamily_16 : G_laws_toFamily.sp 16 = sp_laws_toIntS ∧ G_laws_toFamily.lend 16 = lend_laws_toIntS := ⟨rfl, rfl⟩
set_option maxHeartbeats 1000000 in
set_option maxRecDepth 100000 in
theorem runs_laws_toFamily (n : Int) (xs : List Int) (hp1 : xs.length ≤ 1099511627776) : ARuns Try.prog 34 [.agg [.int .i64 n, .sl none (.ints .i64 xs)]] [] (.agg [.int .i64 n, .ref 0 xs.length]) [.row 3 (.ints .i64 xs)] := by
  refine ARuns_bc G_laws_toFamily_ok is_laws_toFamily (by simp) fun hl hlB => ?_
  simp only [kcode_at, kreg_at, bc_skip, bc_seq, bc_cond, bc_block, bc_exit, bc_ret, bc_region, lkX_cons, acond_tmp, aCase_t, aCase_f, aCase_b, afin_nil, cvE_some, resL, resV, resC, cv, cvL, pack, entryE, inPrm, Option.getD_some, acall_clo, add_sp, add_lend, kcall_nil, selOf, selC, selA, inArgs, inA, inL, okA, okL, okBx, okC, outA, outL, outU, outB, deep, deepL, boxIds, AV.bid, List.map_nil, List.map_cons, List.all_nil, List.all_cons, BEq.rfl, Bool.and_true, Bool.true_and, List.append_nil, aops_nil, aops_plain, aops_guard, kont_at, yes_at, no_at, aop_move, aop_assign, aop_pick, aop_alloc, aop_box, aop_build, aop_buildSlice, aop_load, aop_store, aop_nilCheck, aop_binOp, aop_unOp, aop_convert, aop_fieldAddr, aop_indexAddr, aop_slice, aop_extract, aop_makeSlice, aop_len, aop_max, aMax_int, slTy2, SC0, aop_append, aop_call, evalE, getE, putE, getB, setB, St.put, setsB, nth, AV.ofV, AV.blk, AV.bid, AV.one, SC.len, SC.get, List.length_nil, List.length_cons, Nat.reduceEqDiff, Nat.reduceAdd, ↓reduceIte, true_and, and_true, Bool.true_eq_false, Bool.false_eq_true, false_imp_iff, true_imp_iff, decide_eq_true_eq, Bool.not_eq_true', Bool.not_eq_false', decide_eq_false_iff_not, Option.isSome, List.nil_append, List.cons_append, aGuardO_some, aGuard_tt, aGuard_tf, aGuard_ft, aGuard_ff, aGuard_tb, aGuard_fb, aGuard_ts, aGuard_fs, aPick_b, aPick_t, aPick_f, aAlloc_one, aAlloc_flat, aBox_some, aBuild_flat, aInt_add, aBin_add, aInt_sub, aBin_sub, aInt_mul, aBin_mul, aInt_quo, aBin_quo, aInt_rem, aBin_rem, aInt_and, aBin_and, aInt_or, aBin_or, aInt_xor, aBin_xor, aInt_andNot, aBin_andNot, aInt_eql, aBin_eql, aInt_neq, aBin_neq, aInt_lss, aBin_lss, aInt_leq, aBin_leq, aInt_gtr, aBin_gtr, aInt_geq, aBin_geq, aBin_shl, aBin_shr, aShift_shl, aShift_shr, aBin_be1, aBin_bn1, aBin_be2, aBin_bn2, aBin_be3, aBin_bn3, aBin_be4, aBin_bn4, aBin_be5, aBin_bn5, aBin_be6, aBin_bn6, aBin_be7, aBin_bn7, aBin_be8, aBin_bn8, aBin_be9, aBin_bn9, aUn_b, aUn_t, aUn_f, aUn_i, aNil_ptr, aNil_pv, aConv_int, aField_ptr, aField_pv, aIdx_sl, aIdx_prm, aIdx_row, aIdx_drow, aMake_i, aMake_s, aExtr_tup, aLen_ref, aLen_nil, aLen_sl, aLen_prm, aLen_str, aBuildL_some, aBuildS_some, aLoad_1b, aLoad_1d, aLoad_fb, aLoad_fd, aLoad_1p, aLoad_fp, aLoad_ep, aLoad_rr, aLoad_rd, aStore_1, aStore_f, aStore_r, aApp_some, aAppend_nil, aAppend_ref, aSlice_h, aSlice_l, aSlice_lh, aop_slice3, aSlice3_r, aop_field, aFld_agg, aBinW_f, aBinW_t, aWrap_mul, aWrap_add, isW_tmp, isW_mulc, isW_addc, isW_sub, isW_quo, isW_rem, isW_and, isW_or, isW_xor, isW_andNot, isW_shl, isW_shr, isW_eql, isW_neq, isW_lss, isW_leq, isW_gtr, isW_geq, Int.reduceLT, aBinW_dF, aBinW_dT, bc_draw, kregD_at, aopsD_nil, aopsD_plain, aopsD_guard, kontD_at, contD_at, yesD_at, noD_at, splD_bool, splD_undef, splD_skip, splD_int, splD_tt, splD_ff, splD_str, splD_nil, splD_sl, splD_prm, splD_ref, splD_ptr, splD_rp, splD_ep, splD_pv, splD_agg, splD_tup, splD_clo, gD_tt, gD_tf, gD_ft, gD_ff, gD_ts, gD_fs, slotO_some, addTr_nil, addTr_cons, memQ_nil, memQ_cons, clash_nil, clash_cons, regC_none, regC_nil, regC_cons, regR_nil, regR_cons, Int.toNat_zero, Int.toNat_one, rng0, rng1, rng2, rng3, rng4, SC.take, SC.drop, mp_nil, acond_ct, acond_cf, mp_one0, mp_one1, mp_one2, mp_one3, kcall_one, liveB_row, liveB_box, idx, cont, still, dies, lend, lendA, lendDies, snocs, SC.snoc, SC.app, meet, AV.cells, fillA, List.getD_cons_zero, List.getD_cons_succ, List.set_cons_zero, List.set_cons_succ, List.length_singleton, Nat.le_refl, Nat.lt_irrefl, Nat.reduceLT, Nat.reduceLeDiff, Option.map_some, Option.map_none, List.flatMap_nil, List.flatMap_cons, Nat.zero_add, BEq.rfl, kcall_two, mp_two0, mp_two1, mp_two2, mp_two3, mp_two4, aop_makeFunc, plainA, Bool.true_and, sl3, ty3, un3, sl56, ty56, un56, sl85, ty85, un85, sl83, ty83, un83, sl5, ty5, un5, sl2, ty2, un2, sl21, ty21, un21, sl4, ty4, un4, sl9, un9, sl22, ty22, un22, sl55, sl62, sl73, sl77, sl86, ty73, ty39, sl39, ty33, sl33, ty79, sl79, ty67, sl67, inR64, inRu64, inRu32, gs_laws_toFamily_16, at_laws_toIntS, lend_laws_toIntS, Try.f34]
  exact ⟨hp1, afin_of [3] rfl (by simp only [resL, resV, resC, getE, putE, getB, setB, lifts, liftOne, cellsOfB, List.length_cons, List.length_nil, List.nil_append, List.cons_append, Nat.reduceAdd, Nat.reduceEqDiff, ↓reduceIte, ty3, ty56, ty85, ty83, ty5, ty2, ty21, ty4, ty22, ty73, ty39, ty33, ty79, ty67]; rfl) (by simp [St.conv, St.bf, getE, putE, getB, cv, cvL, cvB, idx, still, pack, lifts, liftOne, cellsOfB, setB]) (by simp [St.conv, St.bf, getE, putE, getB, cv, cvL, cvB, idx, still, pack, lifts, liftOne, cellsOfB, setB])⟩
def lend_laws_toFamily : List Nat := []
def sp_laws_toFamily : List AV → List Bx → (AV → List Bx → Prop) → Prop
  | [.agg [.int .i64 n, .sl none (.ints .i64 xs)]], [], K => (xs.length ≤ 1099511627776) ∧ K (.agg [.int .i64 n, .ref 0 xs.length]) [.row 3 (.ints .i64 xs)]
  | _, _, _ => False
theorem at_laws_toFamily {n : Int} {xs : List Int} {K : AV → List Bx → Prop} : sp_laws_toFamily [.agg [.int .i64 n, .sl none (.ints .i64 xs)]] [] K = ((xs.length ≤ 1099511627776) ∧ K (.agg [.int .i64 n, .ref 0 xs.length]) [.row 3 (.ints .i64 xs)]) := id rfl
theorem ok_laws_toFamily : ∀ args giv K, sp_laws_toFamily args giv K → ∃ r outs, ARuns Try.prog 34 args giv r outs ∧ K r outs := by
  intro args giv K hk
  unfold sp_laws_toFamily at hk
  split at hk
  · obtain ⟨hp1, hk⟩ := hk; exact ⟨_, _, runs_laws_toFamily _ _ hp1, hk⟩
  · exact hk.elim
theorem is_impl_within : FnIs Try.prog 59 15 [.tmp 6] (Try.f59.body.getD .skip) := ⟨⟨Try.f59, by kernel_rfl, by kernel_rfl, by kernel_rfl, by kernel_rfl⟩, by kernel_rfl, by kernel_rfl⟩
def G_impl_within : Gm := Gm.none
theorem G_impl_within_ok : G_impl_within.ok Try.prog := Gm.none_ok
set_option maxHeartbeats 1000000 in
set_option maxRecDepth 100000 in
theorem runs_impl_within (n l m : Int) : ARuns Try.prog 59 [.int .i64 n, .int .i64 l, .int .i64 m] [] (.bool (inB n l m)) [] := by
  refine ARuns_bc G_impl_within_ok is_impl_within (by simp) fun hl hlB => ?_
  simp only [kcode_at, kreg_at, bc_skip, bc_seq, bc_cond, bc_block, bc_exit, bc_ret, bc_region, lkX_cons, acond_tmp, aCase_t, aCase_f, aCase_b, afin_nil, cvE_some, resL, resV, resC, cv, cvL, pack, entryE, inPrm, Option.getD_some, acall_clo, add_sp, add_lend, kcall_nil, selOf, selC, selA, inArgs, inA, inL, okA, okL, okBx, okC, outA, outL, outU, outB, deep, deepL, boxIds, AV.bid, List.map_nil, List.map_cons, List.all_nil, List.all_cons, BEq.rfl, Bool.and_true, Bool.true_and, List.append_nil, aops_nil, aops_plain, aops_guard, kont_at, yes_at, no_at, aop_move, aop_assign, aop_pick, aop_alloc, aop_box, aop_build, aop_buildSlice, aop_load, aop_store, aop_nilCheck, aop_binOp, aop_unOp, aop_convert, aop_fieldAddr, aop_indexAddr, aop_slice, aop_extract, aop_makeSlice, aop_len, aop_max, aMax_int, slTy2, SC0, aop_append, aop_call, evalE, getE, putE, getB, setB, St.put, setsB, nth, AV.ofV, AV.blk, AV.bid, AV.one, SC.len, SC.get, List.length_nil, List.length_cons, Nat.reduceEqDiff, Nat.reduceAdd, ↓reduceIte, true_and, and_true, Bool.true_eq_false, Bool.false_eq_true, false_imp_iff, true_imp_iff, decide_eq_true_eq, Bool.not_eq_true', Bool.not_eq_false', decide_eq_false_iff_not, Option.isSome, List.nil_append, List.cons_append, aGuardO_some, aGuard_tt, aGuard_tf, aGuard_ft, aGuard_ff, aGuard_tb, aGuard_fb, aGuard_ts, aGuard_fs, aPick_b, aPick_t, aPick_f, aAlloc_one, aAlloc_flat, aBox_some, aBuild_flat, aInt_add, aBin_add, aInt_sub, aBin_sub, aInt_mul, aBin_mul, aInt_quo, aBin_quo, aInt_rem, aBin_rem, aInt_and, aBin_and, aInt_or, aBin_or, aInt_xor, aBin_xor, aInt_andNot, aBin_andNot, aInt_eql, aBin_eql, aInt_neq, aBin_neq, aInt_lss, aBin_lss, aInt_leq, aBin_leq, aInt_gtr, aBin_gtr, aInt_geq, aBin_geq, aBin_shl, aBin_shr, aShift_shl, aShift_shr, aBin_be1, aBin_bn1, aBin_be2, aBin_bn2, aBin_be3, aBin_bn3, aBin_be4, aBin_bn4, aBin_be5, aBin_bn5, aBin_be6, aBin_bn6, aBin_be7, aBin_bn7, aBin_be8, aBin_bn8, aBin_be9, aBin_bn9, aUn_b, aUn_t, aUn_f, aUn_i, aNil_ptr, aNil_pv, aConv_int, aField_ptr, aField_pv, aIdx_sl, aIdx_prm, aIdx_row, aIdx_drow, aMake_i, aMake_s, aExtr_tup, aLen_ref, aLen_nil, aLen_sl, aLen_prm, aLen_str, aBuildL_some, aBuildS_some, aLoad_1b, aLoad_1d, aLoad_fb, aLoad_fd, aLoad_1p, aLoad_fp, aLoad_ep, aLoad_rr, aLoad_rd, aStore_1, aStore_f, aStore_r, aApp_some, aAppend_nil, aAppend_ref, aSlice_h, aSlice_l, aSlice_lh, aop_slice3, aSlice3_r, aop_field, aFld_agg, aBinW_f, aBinW_t, aWrap_mul, aWrap_add, isW_tmp, isW_mulc, isW_addc, isW_sub, isW_quo, isW_rem, isW_and, isW_or, isW_xor, isW_andNot, isW_shl, isW_shr, isW_eql, isW_neq, isW_lss, isW_leq, isW_gtr, isW_geq, Int.reduceLT, aBinW_dF, aBinW_dT, bc_draw, kregD_at, aopsD_nil, aopsD_plain, aopsD_guard, kontD_at, contD_at, yesD_at, noD_at, splD_bool, splD_undef, splD_skip, splD_int, splD_tt, splD_ff, splD_str, splD_nil, splD_sl, splD_prm, splD_ref, splD_ptr, splD_rp, splD_ep, splD_pv, splD_agg, splD_tup, splD_clo, gD_tt, gD_tf, gD_ft, gD_ff, gD_ts, gD_fs, slotO_some, addTr_nil, addTr_cons, memQ_nil, memQ_cons, clash_nil, clash_cons, regC_none, regC_nil, regC_cons, regR_nil, regR_cons, Int.toNat_zero, Int.toNat_one, rng0, rng1, rng2, rng3, rng4, SC.take, SC.drop, mp_nil, acond_ct, acond_cf, mp_one0, mp_one1, mp_one2, mp_one3, kcall_one, liveB_row, liveB_box, idx, cont, still, dies, lend, lendA, lendDies, snocs, SC.snoc, SC.app, meet, AV.cells, fillA, List.getD_cons_zero, List.getD_cons_succ, List.set_cons_zero, List.set_cons_succ, List.length_singleton, Nat.le_refl, Nat.lt_irrefl, Nat.reduceLT, Nat.reduceLeDiff, Option.map_some, Option.map_none, List.flatMap_nil, List.flatMap_cons, Nat.zero_add, BEq.rfl, kcall_two, mp_two0, mp_two1, mp_two2, mp_two3, mp_two4, aop_makeFunc, plainA, Bool.true_and, sl3, ty3, un3, sl56, ty56, un56, sl85, ty85, un85, sl83, ty83, un83, sl5, ty5, un5, sl2, ty2, un2, sl21, ty21, un21, sl4, ty4, un4, sl9, un9, sl22, ty22, un22, sl55, sl62, sl73, sl77, sl86, ty73, ty39, sl39, ty33, sl33, ty79, sl79, ty67, sl67, inR64, inRu64, inRu32, Try.f59]
  refine ⟨fun h => ?_, fun h => ?_⟩ <;> simp [h, inB]
def lend_impl_within : List Nat := []
def sp_impl_within : List AV → List Bx → (AV → List Bx → Prop) → Prop
  | [.int .i64 n, .int .i64 l, .int .i64 m], [], K => K (.bool (inB n l m)) []
  | _, _, _ => False
theorem at_impl_within {n l m : Int} {K : AV → List Bx → Prop} : sp_impl_within [.int .i64 n, .int .i64 l, .int .i64 m] [] K = (K (.bool (inB n l m)) []) := id rfl
theorem ok_impl_within : ∀ args giv K, sp_impl_within args giv K → ∃ r outs, ARuns Try.prog 59 args giv r outs ∧ K r outs := by
  intro args giv K hk
  unfold sp_impl_within at hk
  split at hk
  · exact ⟨_, _, runs_impl_within _ _ _ , hk⟩
  · exact hk.elim
theorem is_impl_isSetOf : FnIs Try.prog 101 14 [.tmp 4] (Try.f101.body.getD .skip) := ⟨⟨Try.f101, by kernel_rfl, by kernel_rfl, by kernel_rfl, by kernel_rfl⟩, by kernel_rfl, by kernel_rfl⟩
def G_impl_isSetOf : Gm := Gm.none
theorem G_impl_isSetOf_ok : G_impl_isSetOf.ok Try.prog := Gm.none_ok
set_option maxHeartbeats 1000000 in
set_option maxRecDepth 100000 in
theorem runs_impl_isSetOf (n s : Int) (hp1 : 0 ≤ n ∧ n ≤ 62) : ARuns Try.prog 101 [.int .i64 n, .int .i64 s] [] (.bool (inS n s)) [] := by
  refine ARuns_bc G_impl_isSetOf_ok is_impl_isSetOf (by simp) fun hl hlB => ?_
  simp only [kcode_at, kreg_at, bc_skip, bc_seq, bc_cond, bc_block, bc_exit, bc_ret, bc_region, lkX_cons, acond_tmp, aCase_t, aCase_f, aCase_b, afin_nil, cvE_some, resL, resV, resC, cv, cvL, pack, entryE, inPrm, Option.getD_some, acall_clo, add_sp, add_lend, kcall_nil, selOf, selC, selA, inArgs, inA, inL, okA, okL, okBx, okC, outA, outL, outU, outB, deep, deepL, boxIds, AV.bid, List.map_nil, List.map_cons, List.all_nil, List.all_cons, BEq.rfl, Bool.and_true, Bool.true_and, List.append_nil, aops_nil, aops_plain, aops_guard, kont_at, yes_at, no_at, aop_move, aop_assign, aop_pick, aop_alloc, aop_box, aop_build, aop_buildSlice, aop_load, aop_store, aop_nilCheck, aop_binOp, aop_unOp, aop_convert, aop_fieldAddr, aop_indexAddr, aop_slice, aop_extract, aop_makeSlice, aop_len, aop_max, aMax_int, slTy2, SC0, aop_append, aop_call, evalE, getE, putE, getB, setB, St.put, setsB, nth, AV.ofV, AV.blk, AV.bid, AV.one, SC.len, SC.get, List.length_nil, List.length_cons, Nat.reduceEqDiff, Nat.reduceAdd, ↓reduceIte, true_and, and_true, Bool.true_eq_false, Bool.false_eq_true, false_imp_iff, true_imp_iff, decide_eq_true_eq, Bool.not_eq_true', Bool.not_eq_false', decide_eq_false_iff_not, Option.isSome, List.nil_append, List.cons_append, aGuardO_some, aGuard_tt, aGuard_tf, aGuard_ft, aGuard_ff, aGuard_tb, aGuard_fb, aGuard_ts, aGuard_fs, aPick_b, aPick_t, aPick_f, aAlloc_one, aAlloc_flat, aBox_some, aBuild_flat, aInt_add, aBin_add, aInt_sub, aBin_sub, aInt_mul, aBin_mul, aInt_quo, aBin_quo, aInt_rem, aBin_rem, aInt_and, aBin_and, aInt_or, aBin_or, aInt_xor, aBin_xor, aInt_andNot, aBin_andNot, aInt_eql, aBin_eql, aInt_neq, aBin_neq, aInt_lss, aBin_lss, aInt_leq, aBin_leq, aInt_gtr, aBin_gtr, aInt_geq, aBin_geq, aBin_shl, aBin_shr, aShift_shl, aShift_shr, aBin_be1, aBin_bn1, aBin_be2, aBin_bn2, aBin_be3, aBin_bn3, aBin_be4, aBin_bn4, aBin_be5, aBin_bn5, aBin_be6, aBin_bn6, aBin_be7, aBin_bn7, aBin_be8, aBin_bn8, aBin_be9, aBin_bn9, aUn_b, aUn_t, aUn_f, aUn_i, aNil_ptr, aNil_pv, aConv_int, aField_ptr, aField_pv, aIdx_sl, aIdx_prm, aIdx_row, aIdx_drow, aMake_i, aMake_s, aExtr_tup, aLen_ref, aLen_nil, aLen_sl, aLen_prm, aLen_str, aBuildL_some, aBuildS_some, aLoad_1b, aLoad_1d, aLoad_fb, aLoad_fd, aLoad_1p, aLoad_fp, aLoad_ep, aLoad_rr, aLoad_rd, aStore_1, aStore_f, aStore_r, aApp_some, aAppend_nil, aAppend_ref, aSlice_h, aSlice_l, aSlice_lh, aop_slice3, aSlice3_r, aop_field, aFld_agg, aBinW_f, aBinW_t, aWrap_mul, aWrap_add, isW_tmp, isW_mulc, isW_addc, isW_sub, isW_quo, isW_rem, isW_and, isW_or, isW_xor, isW_andNot, isW_shl, isW_shr, isW_eql, isW_neq, isW_lss, isW_leq, isW_gtr, isW_geq, Int.reduceLT, aBinW_dF, aBinW_dT, bc_draw, kregD_at, aopsD_nil, aopsD_plain, aopsD_guard, kontD_at, contD_at, yesD_at, noD_at, splD_bool, splD_undef, splD_skip, splD_int, splD_tt, splD_ff, splD_str, splD_nil, splD_sl, splD_prm, splD_ref, splD_ptr, splD_rp, splD_ep, splD_pv, splD_agg, splD_tup, splD_clo, gD_tt, gD_tf, gD_ft, gD_ff, gD_ts, gD_fs, slotO_some, addTr_nil, addTr_cons, memQ_nil, memQ_cons, clash_nil, clash_cons, regC_none, regC_nil, regC_cons, regR_nil, regR_cons, Int.toNat_zero, Int.toNat_one, rng0, rng1, rng2, rng3, rng4, SC.take, SC.drop, mp_nil, acond_ct, acond_cf, mp_one0, mp_one1, mp_one2, mp_one3, kcall_one, liveB_row, liveB_box, idx, cont, still, dies, lend, lendA, lendDies, snocs, SC.snoc, SC.app, meet, AV.cells, fillA, List.getD_cons_zero, List.getD_cons_succ, List.set_cons_zero, List.set_cons_succ, List.length_singleton, Nat.le_refl, Nat.lt_irrefl, Nat.reduceLT, Nat.reduceLeDiff, Option.map_some, Option.map_none, List.flatMap_nil, List.flatMap_cons, Nat.zero_add, BEq.rfl, kcall_two, mp_two0, mp_two1, mp_two2, mp_two3, mp_two4, aop_makeFunc, plainA, Bool.true_and, sl3, ty3, un3, sl56, ty56, un56, sl85, ty85, un85, sl83, ty83, un83, sl5, ty5, un5, sl2, ty2, un2, sl21, ty21, un21, sl4, ty4, un4, sl9, un9, sl22, ty22, un22, sl55, sl62, sl73, sl77, sl86, ty73, ty39, sl39, ty33, sl33, ty79, sl79, ty67, sl67, inR64, inRu64, inRu32, Try.f101]
  have hb : (2 : Int) ^ n.toNat ≤ 2 ^ 62 := by
    have : (2 : Nat) ^ n.toNat ≤ 2 ^ 62 := Nat.pow_le_pow_right (by omega) (by omega)
    have h := Int.ofNat_le.2 this
    simpa using h
  have h0 : (0 : Int) ≤ 2 ^ n.toNat := Int.pow_nonneg (by omega)
  have e : inS n s = (decide (0 ≤ s) && decide (s ≤ 2 ^ n.toNat - 1)) := rfl
  rw [e]
  simp only [IntKind.bits]
  generalize (2 : Int) ^ n.toNat = q at *
  refine ⟨fun h => ⟨by omega, by omega, ?_⟩, fun h => ?_⟩
  · congr 1; rw [Bool.eq_iff_iff]; simp; omega
  · congr 1; rw [Bool.eq_iff_iff]; simp; omega
def lend_impl_isSetOf : List Nat := []
def sp_impl_isSetOf : List AV → List Bx → (AV → List Bx → Prop) → Prop
  | [.int .i64 n, .int .i64 s], [], K => (0 ≤ n ∧ n ≤ 62) ∧ K (.bool (inS n s)) []
  | _, _, _ => False
theorem at_impl_isSetOf {n s : Int} {K : AV → List Bx → Prop} : sp_impl_isSetOf [.int .i64 n, .int .i64 s] [] K = ((0 ≤ n ∧ n ≤ 62) ∧ K (.bool (inS n s)) []) := id rfl
theorem ok_impl_isSetOf : ∀ args giv K, sp_impl_isSetOf args giv K → ∃ r outs, ARuns Try.prog 101 args giv r outs ∧ K r outs := by
  intro args giv K hk
  unfold sp_impl_isSetOf at hk
  split at hk
  · obtain ⟨hp1, hk⟩ := hk; exact ⟨_, _, runs_impl_isSetOf _ _ hp1, hk⟩
  · exact hk.elim
theorem is_impl_areSets : FnIs Try.prog 88 21 [.tmp 4] (Try.f88.body.getD .skip) := ⟨⟨Try.f88, by kernel_rfl, by kernel_rfl, by kernel_rfl, by kernel_rfl⟩, by kernel_rfl, by kernel_rfl⟩
def G_impl_areSets : Gm := ((Gm.none.add 59 lend_impl_within sp_impl_within).add 101 lend_impl_isSetOf sp_impl_isSetOf)
theorem G_impl_areSets_ok : G_impl_areSets.ok Try.prog := (Gm.add_ok (Gm.add_ok Gm.none_ok ok_impl_within) ok_impl_isSetOf)
theorem gs_impl_areSets_59 : G_impl_areSets.sp 59 = sp_impl_within ∧ G_impl_areSets.lend 59 = lend_impl_within := ⟨rfl, rfl⟩
theorem gs_impl_areSets_101 : G_impl_areSets.sp 101 = sp_impl_isSetOf ∧ G_impl_areSets.lend 101 = lend_impl_isSetOf := ⟨rfl, rfl⟩
set_option maxHeartbeats 1000000 in
set_option maxRecDepth 100000 in
theorem runs_impl_areSets (n : Int) (xs : List Int) : ARuns Try.prog 88 [.int .i64 n, .sl none (.ints .i64 xs)] [] (.bool (setsOk n xs)) [] := by
  refine ARuns_bc G_impl_areSets_ok is_impl_areSets (by simp) fun hl hlB => ?_
  simp only [kcode_at, kreg_at, bc_skip, bc_seq, bc_cond, bc_block, bc_exit, bc_ret, bc_region, lkX_cons, acond_tmp, aCase_t, aCase_f, aCase_b, afin_nil, cvE_some, resL, resV, resC, cv, cvL, pack, entryE, inPrm, Option.getD_some, acall_clo, add_sp, add_lend, kcall_nil, selOf, selC, selA, inArgs, inA, inL, okA, okL, okBx, okC, outA, outL, outU, outB, deep, deepL, boxIds, AV.bid, List.map_nil, List.map_cons, List.all_nil, List.all_cons, BEq.rfl, Bool.and_true, Bool.true_and, List.append_nil, aops_nil, aops_plain, aops_guard, kont_at, yes_at, no_at, aop_move, aop_assign, aop_pick, aop_alloc, aop_box, aop_build, aop_buildSlice, aop_load, aop_store, aop_nilCheck, aop_binOp, aop_unOp, aop_convert, aop_fieldAddr, aop_indexAddr, aop_slice, aop_extract, aop_makeSlice, aop_len, aop_max, aMax_int, slTy2, SC0, aop_append, aop_call, evalE, getE, putE, getB, setB, St.put, setsB, nth, AV.ofV, AV.blk, AV.bid, AV.one, SC.len, SC.get, List.length_nil, List.length_cons, Nat.reduceEqDiff, Nat.reduceAdd, ↓reduceIte, true_and, and_true, Bool.true_eq_false, Bool.false_eq_true, false_imp_iff, true_imp_iff, decide_eq_true_eq, Bool.not_eq_true', Bool.not_eq_false', decide_eq_false_iff_not, Option.isSome, List.nil_append, List.cons_append, aGuardO_some, aGuard_tt, aGuard_tf, aGuard_ft, aGuard_ff, aGuard_tb, aGuard_fb, aGuard_ts, aGuard_fs, aPick_b, aPick_t, aPick_f, aAlloc_one, aAlloc_flat, aBox_some, aBuild_flat, aInt_add, aBin_add, aInt_sub, aBin_sub, aInt_mul, aBin_mul, aInt_quo, aBin_quo, aInt_rem, aBin_rem, aInt_and, aBin_and, aInt_or, aBin_or, aInt_xor, aBin_xor, aInt_andNot, aBin_andNot, aInt_eql, aBin_eql, aInt_neq, aBin_neq, aInt_lss, aBin_lss, aInt_leq, aBin_leq, aInt_gtr, aBin_gtr, aInt_geq, aBin_geq, aBin_shl, aBin_shr, aShift_shl, aShift_shr, aBin_be1, aBin_bn1, aBin_be2, aBin_bn2, aBin_be3, aBin_bn3, aBin_be4, aBin_bn4, aBin_be5, aBin_bn5, aBin_be6, aBin_bn6, aBin_be7, aBin_bn7, aBin_be8, aBin_bn8, aBin_be9, aBin_bn9, aUn_b, aUn_t, aUn_f, aUn_i, aNil_ptr, aNil_pv, aConv_int, aField_ptr, aField_pv, aIdx_sl, aIdx_prm, aIdx_row, aIdx_drow, aMake_i, aMake_s, aExtr_tup, aLen_ref, aLen_nil, aLen_sl, aLen_prm, aLen_str, aBuildL_some, aBuildS_some, aLoad_1b, aLoad_1d, aLoad_fb, aLoad_fd, aLoad_1p, aLoad_fp, aLoad_ep, aLoad_rr, aLoad_rd, aStore_1, aStore_f, aStore_r, aApp_some, aAppend_nil, aAppend_ref, aSlice_h, aSlice_l, aSlice_lh, aop_slice3, aSlice3_r, aop_field, aFld_agg, aBinW_f, aBinW_t, aWrap_mul, aWrap_add, isW_tmp, isW_mulc, isW_addc, isW_sub, isW_quo, isW_rem, isW_and, isW_or, isW_xor, isW_andNot, isW_shl, isW_shr, isW_eql, isW_neq, isW_lss, isW_leq, isW_gtr, isW_geq, Int.reduceLT, aBinW_dF, aBinW_dT, bc_draw, kregD_at, aopsD_nil, aopsD_plain, aopsD_guard, kontD_at, contD_at, yesD_at, noD_at, splD_bool, splD_undef, splD_skip, splD_int, splD_tt, splD_ff, splD_str, splD_nil, splD_sl, splD_prm, splD_ref, splD_ptr, splD_rp, splD_ep, splD_pv, splD_agg, splD_tup, splD_clo, gD_tt, gD_tf, gD_ft, gD_ff, gD_ts, gD_fs, slotO_some, addTr_nil, addTr_cons, memQ_nil, memQ_cons, clash_nil, clash_cons, regC_none, regC_nil, regC_cons, regR_nil, regR_cons, Int.toNat_zero, Int.toNat_one, rng0, rng1, rng2, rng3, rng4, SC.take, SC.drop, mp_nil, acond_ct, acond_cf, mp_one0, mp_one1, mp_one2, mp_one3, kcall_one, liveB_row, liveB_box, idx, cont, still, dies, lend, lendA, lendDies, snocs, SC.snoc, SC.app, meet, AV.cells, fillA, List.getD_cons_zero, List.getD_cons_succ, List.set_cons_zero, List.set_cons_succ, List.length_singleton, Nat.le_refl, Nat.lt_irrefl, Nat.reduceLT, Nat.reduceLeDiff, Option.map_some, Option.map_none, List.flatMap_nil, List.flatMap_cons, Nat.zero_add, BEq.rfl, kcall_two, mp_two0, mp_two1, mp_two2, mp_two3, mp_two4, aop_makeFunc, plainA, Bool.true_and, sl3, ty3, un3, sl56, ty56, un56, sl85, ty85, un85, sl83, ty83, un83, sl5, ty5, un5, sl2, ty2, un2, sl21, ty21, un21, sl4, ty4, un4, sl9, un9, sl22, ty22, un22, sl55, sl62, sl73, sl77, sl86, ty73, ty39, sl39, ty33, sl33, ty79, sl79, ty67, sl67, inR64, inRu64, inRu32, gs_impl_areSets_59, at_impl_within, lend_impl_within, gs_impl_areSets_101, at_impl_isSetOf, lend_impl_isSetOf, Try.f88]
  simp only [lensA, lenA, lenSC] at hl
  refine ⟨fun h => by rw [setsOk, h]; rfl, fun hn => ?_⟩
  refine bc_loop (fun i : Nat => i ≤ xs.length ∧ ∀ k, k < i → inS n (xs.getD k 0) = true)
    (fun i => ⟨[(0, .int .i64 n), (10, .prm 1 (.ints .i64 xs)), (11, .int .i64 xs.length), (12, .int .i64 i)], []⟩) (fun i => xs.length - i)
    [0, 10, 11, 12] [] 0 rfl rfl (by simp) fun i ⟨h1, h2⟩ => ?_
  simp only [kcode_at, kreg_at, bc_skip, bc_seq, bc_cond, bc_block, bc_exit, bc_ret, bc_region, lkX_cons, acond_tmp, aCase_t, aCase_f, aCase_b, afin_nil, cvE_some, resL, resV, resC, cv, cvL, pack, entryE, inPrm, Option.getD_some, acall_clo, add_sp, add_lend, kcall_nil, selOf, selC, selA, inArgs, inA, inL, okA, okL, okBx, okC, outA, outL, outU, outB, deep, deepL, boxIds, AV.bid, List.map_nil, List.map_cons, List.all_nil, List.all_cons, BEq.rfl, Bool.and_true, Bool.true_and, List.append_nil, aops_nil, aops_plain, aops_guard, kont_at, yes_at, no_at, aop_move, aop_assign, aop_pick, aop_alloc, aop_box, aop_build, aop_buildSlice, aop_load, aop_store, aop_nilCheck, aop_binOp, aop_unOp, aop_convert, aop_fieldAddr, aop_indexAddr, aop_slice, aop_extract, aop_makeSlice, aop_len, aop_max, aMax_int, slTy2, SC0, aop_append, aop_call, evalE, getE, putE, getB, setB, St.put, setsB, nth, AV.ofV, AV.blk, AV.bid, AV.one, SC.len, SC.get, List.length_nil, List.length_cons, Nat.reduceEqDiff, Nat.reduceAdd, ↓reduceIte, true_and, and_true, Bool.true_eq_false, Bool.false_eq_true, false_imp_iff, true_imp_iff, decide_eq_true_eq, Bool.not_eq_true', Bool.not_eq_false', decide_eq_false_iff_not, Option.isSome, List.nil_append, List.cons_append, aGuardO_some, aGuard_tt, aGuard_tf, aGuard_ft, aGuard_ff, aGuard_tb, aGuard_fb, aGuard_ts, aGuard_fs, aPick_b, aPick_t, aPick_f, aAlloc_one, aAlloc_flat, aBox_some, aBuild_flat, aInt_add, aBin_add, aInt_sub, aBin_sub, aInt_mul, aBin_mul, aInt_quo, aBin_quo, aInt_rem, aBin_rem, aInt_and, aBin_and, aInt_or, aBin_or, aInt_xor, aBin_xor, aInt_andNot, aBin_andNot, aInt_eql, aBin_eql, aInt_neq, aBin_neq, aInt_lss, aBin_lss, aInt_leq, aBin_leq, aInt_gtr, aBin_gtr, aInt_geq, aBin_geq, aBin_shl, aBin_shr, aShift_shl, aShift_shr, aBin_be1, aBin_bn1, aBin_be2, aBin_bn2, aBin_be3, aBin_bn3, aBin_be4, aBin_bn4, aBin_be5, aBin_bn5, aBin_be6, aBin_bn6, aBin_be7, aBin_bn7, aBin_be8, aBin_bn8, aBin_be9, aBin_bn9, aUn_b, aUn_t, aUn_f, aUn_i, aNil_ptr, aNil_pv, aConv_int, aField_ptr, aField_pv, aIdx_sl, aIdx_prm, aIdx_row, aIdx_drow, aMake_i, aMake_s, aExtr_tup, aLen_ref, aLen_nil, aLen_sl, aLen_prm, aLen_str, aBuildL_some, aBuildS_some, aLoad_1b, aLoad_1d, aLoad_fb, aLoad_fd, aLoad_1p, aLoad_fp, aLoad_ep, aLoad_rr, aLoad_rd, aStore_1, aStore_f, aStore_r, aApp_some, aAppend_nil, aAppend_ref, aSlice_h, aSlice_l, aSlice_lh, aop_slice3, aSlice3_r, aop_field, aFld_agg, aBinW_f, aBinW_t, aWrap_mul, aWrap_add, isW_tmp, isW_mulc, isW_addc, isW_sub, isW_quo, isW_rem, isW_and, isW_or, isW_xor, isW_andNot, isW_shl, isW_shr, isW_eql, isW_neq, isW_lss, isW_leq, isW_gtr, isW_geq, Int.reduceLT, aBinW_dF, aBinW_dT, bc_draw, kregD_at, aopsD_nil, aopsD_plain, aopsD_guard, kontD_at, contD_at, yesD_at, noD_at, splD_bool, splD_undef, splD_skip, splD_int, splD_tt, splD_ff, splD_str, splD_nil, splD_sl, splD_prm, splD_ref, splD_ptr, splD_rp, splD_ep, splD_pv, splD_agg, splD_tup, splD_clo, gD_tt, gD_tf, gD_ft, gD_ff, gD_ts, gD_fs, slotO_some, addTr_nil, addTr_cons, memQ_nil, memQ_cons, clash_nil, clash_cons, regC_none, regC_nil, regC_cons, regR_nil, regR_cons, Int.toNat_zero, Int.toNat_one, rng0, rng1, rng2, rng3, rng4, SC.take, SC.drop, mp_nil, acond_ct, acond_cf, mp_one0, mp_one1, mp_one2, mp_one3, kcall_one, liveB_row, liveB_box, idx, cont, still, dies, lend, lendA, lendDies, snocs, SC.snoc, SC.app, meet, AV.cells, fillA, List.getD_cons_zero, List.getD_cons_succ, List.set_cons_zero, List.set_cons_succ, List.length_singleton, Nat.le_refl, Nat.lt_irrefl, Nat.reduceLT, Nat.reduceLeDiff, Option.map_some, Option.map_none, List.flatMap_nil, List.flatMap_cons, Nat.zero_add, BEq.rfl, kcall_two, mp_two0, mp_two1, mp_two2, mp_two3, mp_two4, aop_makeFunc, plainA, Bool.true_and, sl3, ty3, un3, sl56, ty56, un56, sl85, ty85, un85, sl83, ty83, un83, sl5, ty5, un5, sl2, ty2, un2, sl21, ty21, un21, sl4, ty4, un4, sl9, un9, sl22, ty22, un22, sl55, sl62, sl73, sl77, sl86, ty73, ty39, sl39, ty33, sl33, ty79, sl79, ty67, sl67, inR64, inRu64, inRu32, gs_impl_areSets_59, at_impl_within, lend_impl_within, gs_impl_areSets_101, at_impl_isSetOf, lend_impl_isSetOf, Int.toNat_natCast]
  have hb := hn
  rw [inB_t] at hb
  refine ⟨fun hi => ⟨by omega, by omega, fun hf => ?_, fun ht => ⟨by omega, ?_⟩⟩, fun hi => ?_⟩
  · rw [setsOk, allN_f i (by omega) hf]; simp
  · exact klp_of (i + 1) rfl ⟨by omega, upto_succ h2 ht⟩ (by omega)
  · have : i = xs.length := by omega
    subst this
    rw [setsOk, hn, allN_t h2]; rfl
def lend_impl_areSets : List Nat := []
def sp_impl_areSets : List AV → List Bx → (AV → List Bx → Prop) → Prop
  | [.int .i64 n, .sl none (.ints .i64 xs)], [], K => K (.bool (setsOk n xs)) []
  | _, _, _ => False
theorem at_impl_areSets {n : Int} {xs : List Int} {K : AV → List Bx → Prop} : sp_impl_areSets [.int .i64 n, .sl none (.ints .i64 xs)] [] K = (K (.bool (setsOk n xs)) []) := id rfl
theorem ok_impl_areSets : ∀ args giv K, sp_impl_areSets args giv K → ∃ r outs, ARuns Try.prog 88 args giv r outs ∧ K r outs := by
  intro args giv K hk
  unfold sp_impl_areSets at hk
  split at hk
  · exact ⟨_, _, runs_impl_areSets _ _ , hk⟩
  · exact hk.elim
theorem is_impl_IsFamily : FnIs Try.prog 70 29 [.tmp 2] (Try.f70.body.getD .skip) := ⟨⟨Try.f70, by kernel_rfl, by kernel_rfl, by kernel_rfl, by kernel_rfl⟩, by kernel_rfl, by kernel_rfl⟩
def G_impl_IsFamily : Gm := (Gm.none.add 88 lend_impl_areSets sp_impl_areSets)
theorem G_impl_IsFamily_ok : G_impl_IsFamily.ok Try.prog := (Gm.add_ok Gm.none_ok ok_impl_areSets)
theorem gs_impl_IsFamily_88 : G_impl_IsFamily.sp 88 = sp_impl_areSets ∧ G_impl_IsFamily.lend 88 = lend_impl_areSets := ⟨rfl, rfl⟩
set_option maxHeartbeats 1000000 in
set_option maxRecDepth 100000 in
theorem runs_impl_IsFamily (n : Int) (xs : List Int) : ARuns Try.prog 70 [.agg [.int .i64 n, .sl none (.ints .i64 xs)]] [] (.bool (famB n xs)) [] := by
  refine ARuns_bc G_impl_IsFamily_ok is_impl_IsFamily (by simp) fun hl hlB => ?_
  simp only [kcode_at, kreg_at, bc_skip, bc_seq, bc_cond, bc_block, bc_exit, bc_ret, bc_region, lkX_cons, acond_tmp, aCase_t, aCase_f, aCase_b, afin_nil, cvE_some, resL, resV, resC, cv, cvL, pack, entryE, inPrm, Option.getD_some, acall_clo, add_sp, add_lend, kcall_nil, selOf, selC, selA, inArgs, inA, inL, okA, okL, okBx, okC, outA, outL, outU, outB, deep, deepL, boxIds, AV.bid, List.map_nil, List.map_cons, List.all_nil, List.all_cons, BEq.rfl, Bool.and_true, Bool.true_and, List.append_nil, aops_nil, aops_plain, aops_guard, kont_at, yes_at, no_at, aop_move, aop_assign, aop_pick, aop_alloc, aop_box, aop_build, aop_buildSlice, aop_load, aop_store, aop_nilCheck, aop_binOp, aop_unOp, aop_convert, aop_fieldAddr, aop_indexAddr, aop_slice, aop_extract, aop_makeSlice, aop_len, aop_max, aMax_int, slTy2, SC0, aop_append, aop_call, evalE, getE, putE, getB, setB, St.put, setsB, nth, AV.ofV, AV.blk, AV.bid, AV.one, SC.len, SC.get, List.length_nil, List.length_cons, Nat.reduceEqDiff, Nat.reduceAdd, ↓reduceIte, true_and, and_true, Bool.true_eq_false, Bool.false_eq_true, false_imp_iff, true_imp_iff, decide_eq_true_eq, Bool.not_eq_true', Bool.not_eq_false', decide_eq_false_iff_not, Option.isSome, List.nil_append, List.cons_append, aGuardO_some, aGuard_tt, aGuard_tf, aGuard_ft, aGuard_ff, aGuard_tb, aGuard_fb, aGuard_ts, aGuard_fs, aPick_b, aPick_t, aPick_f, aAlloc_one, aAlloc_flat, aBox_some, aBuild_flat, aInt_add, aBin_add, aInt_sub, aBin_sub, aInt_mul, aBin_mul, aInt_quo, aBin_quo, aInt_rem, aBin_rem, aInt_and, aBin_and, aInt_or, aBin_or, aInt_xor, aBin_xor, aInt_andNot, aBin_andNot, aInt_eql, aBin_eql, aInt_neq, aBin_neq, aInt_lss, aBin_lss, aInt_leq, aBin_leq, aInt_gtr, aBin_gtr, aInt_geq, aBin_geq, aBin_shl, aBin_shr, aShift_shl, aShift_shr, aBin_be1, aBin_bn1, aBin_be2, aBin_bn2, aBin_be3, aBin_bn3, aBin_be4, aBin_bn4, aBin_be5, aBin_bn5, aBin_be6, aBin_bn6, aBin_be7, aBin_bn7, aBin_be8, aBin_bn8, aBin_be9, aBin_bn9, aUn_b, aUn_t, aUn_f, aUn_i, aNil_ptr, aNil_pv, aConv_int, aField_ptr, aField_pv, aIdx_sl, aIdx_prm, aIdx_row, aIdx_drow, aMake_i, aMake_s, aExtr_tup, aLen_ref, aLen_nil, aLen_sl, aLen_prm, aLen_str, aBuildL_some, aBuildS_some, aLoad_1b, aLoad_1d, aLoad_fb, aLoad_fd, aLoad_1p, aLoad_fp, aLoad_ep, aLoad_rr, aLoad_rd, aStore_1, aStore_f, aStore_r, aApp_some, aAppend_nil, aAppend_ref, aSlice_h, aSlice_l, aSlice_lh, aop_slice3, aSlice3_r, aop_field, aFld_agg, aBinW_f, aBinW_t, aWrap_mul, aWrap_add, isW_tmp, isW_mulc, isW_addc, isW_sub, isW_quo, isW_rem, isW_and, isW_or, isW_xor, isW_andNot, isW_shl, isW_shr, isW_eql, isW_neq, isW_lss, isW_leq, isW_gtr, isW_geq, Int.reduceLT, aBinW_dF, aBinW_dT, bc_draw, kregD_at, aopsD_nil, aopsD_plain, aopsD_guard, kontD_at, contD_at, yesD_at, noD_at, splD_bool, splD_undef, splD_skip, splD_int, splD_tt, splD_ff, splD_str, splD_nil, splD_sl, splD_prm, splD_ref, splD_ptr, splD_rp, splD_ep, splD_pv, splD_agg, splD_tup, splD_clo, gD_tt, gD_tf, gD_ft, gD_ff, gD_ts, gD_fs, slotO_some, addTr_nil, addTr_cons, memQ_nil, memQ_cons, clash_nil, clash_cons, regC_none, regC_nil, regC_cons, regR_nil, regR_cons, Int.toNat_zero, Int.toNat_one, rng0, rng1, rng2, rng3, rng4, SC.take, SC.drop, mp_nil, acond_ct, acond_cf, mp_one0, mp_one1, mp_one2, mp_one3, kcall_one, liveB_row, liveB_box, idx, cont, still, dies, lend, lendA, lendDies, snocs, SC.snoc, SC.app, meet, AV.cells, fillA, List.getD_cons_zero, List.getD_cons_succ, List.set_cons_zero, List.set_cons_succ, List.length_singleton, Nat.le_refl, Nat.lt_irrefl, Nat.reduceLT, Nat.reduceLeDiff, Option.map_some, Option.map_none, List.flatMap_nil, List.flatMap_cons, Nat.zero_add, BEq.rfl, kcall_two, mp_two0, mp_two1, mp_two2, mp_two3, mp_two4, aop_makeFunc, plainA, Bool.true_and, sl3, ty3, un3, sl56, ty56, un56, sl85, ty85, un85, sl83, ty83, un83, sl5, ty5, un5, sl2, ty2, un2, sl21, ty21, un21, sl4, ty4, un4, sl9, un9, sl22, ty22, un22, sl55, sl62, sl73, sl77, sl86, ty73, ty39, sl39, ty33, sl33, ty79, sl79, ty67, sl67, inR64, inRu64, inRu32, gs_impl_IsFamily_88, at_impl_areSets, lend_impl_areSets, Try.f70]
  simp only [lensA, lenA, lenSC] at hl
  refine ⟨fun h => by rw [famB, h]; rfl, fun hn => ?_⟩
  refine bc_loop (fun i : Nat => 1 ≤ i ∧ (i ≤ xs.length ∨ i = 1) ∧ ∀ k, k < i → ascAt xs k = true)
    (fun i => ⟨[(1, .ptr 0 0), (3, .int .i64 i)], [.box [.int .i64 n, .sl none (.ints .i64 xs)]]⟩) (fun i => xs.length - i)
    [1, 3] [0] 1 rfl (by simp [St.conv, St.bf, getE, putE, getB, cv, cvL, cvB, idx, still, pack, lifts, liftOne, cellsOfB, setB]) ⟨by omega, by omega, fun k hk => by rw [ascAt_iff]; omega⟩ fun i ⟨h1, h2, h3⟩ => ?_
  simp only [kcode_at, kreg_at, bc_skip, bc_seq, bc_cond, bc_block, bc_exit, bc_ret, bc_region, lkX_cons, acond_tmp, aCase_t, aCase_f, aCase_b, afin_nil, cvE_some, resL, resV, resC, cv, cvL, pack, entryE, inPrm, Option.getD_some, acall_clo, add_sp, add_lend, kcall_nil, selOf, selC, selA, inArgs, inA, inL, okA, okL, okBx, okC, outA, outL, outU, outB, deep, deepL, boxIds, AV.bid, List.map_nil, List.map_cons, List.all_nil, List.all_cons, BEq.rfl, Bool.and_true, Bool.true_and, List.append_nil, aops_nil, aops_plain, aops_guard, kont_at, yes_at, no_at, aop_move, aop_assign, aop_pick, aop_alloc, aop_box, aop_build, aop_buildSlice, aop_load, aop_store, aop_nilCheck, aop_binOp, aop_unOp, aop_convert, aop_fieldAddr, aop_indexAddr, aop_slice, aop_extract, aop_makeSlice, aop_len, aop_max, aMax_int, slTy2, SC0, aop_append, aop_call, evalE, getE, putE, getB, setB, St.put, setsB, nth, AV.ofV, AV.blk, AV.bid, AV.one, SC.len, SC.get, List.length_nil, List.length_cons, Nat.reduceEqDiff, Nat.reduceAdd, ↓reduceIte, true_and, and_true, Bool.true_eq_false, Bool.false_eq_true, false_imp_iff, true_imp_iff, decide_eq_true_eq, Bool.not_eq_true', Bool.not_eq_false', decide_eq_false_iff_not, Option.isSome, List.nil_append, List.cons_append, aGuardO_some, aGuard_tt, aGuard_tf, aGuard_ft, aGuard_ff, aGuard_tb, aGuard_fb, aGuard_ts, aGuard_fs, aPick_b, aPick_t, aPick_f, aAlloc_one, aAlloc_flat, aBox_some, aBuild_flat, aInt_add, aBin_add, aInt_sub, aBin_sub, aInt_mul, aBin_mul, aInt_quo, aBin_quo, aInt_rem, aBin_rem, aInt_and, aBin_and, aInt_or, aBin_or, aInt_xor, aBin_xor, aInt_andNot, aBin_andNot, aInt_eql, aBin_eql, aInt_neq, aBin_neq, aInt_lss, aBin_lss, aInt_leq, aBin_leq, aInt_gtr, aBin_gtr, aInt_geq, aBin_geq, aBin_shl, aBin_shr, aShift_shl, aShift_shr, aBin_be1, aBin_bn1, aBin_be2, aBin_bn2, aBin_be3, aBin_bn3, aBin_be4, aBin_bn4, aBin_be5, aBin_bn5, aBin_be6, aBin_bn6, aBin_be7, aBin_bn7, aBin_be8, aBin_bn8, aBin_be9, aBin_bn9, aUn_b, aUn_t, aUn_f, aUn_i, aNil_ptr, aNil_pv, aConv_int, aField_ptr, aField_pv, aIdx_sl, aIdx_prm, aIdx_row, aIdx_drow, aMake_i, aMake_s, aExtr_tup, aLen_ref, aLen_nil, aLen_sl, aLen_prm, aLen_str, aBuildL_some, aBuildS_some, aLoad_1b, aLoad_1d, aLoad_fb, aLoad_fd, aLoad_1p, aLoad_fp, aLoad_ep, aLoad_rr, aLoad_rd, aStore_1, aStore_f, aStore_r, aApp_some, aAppend_nil, aAppend_ref, aSlice_h, aSlice_l, aSlice_lh, aop_slice3, aSlice3_r, aop_field, aFld_agg, aBinW_f, aBinW_t, aWrap_mul, aWrap_add, isW_tmp, isW_mulc, isW_addc, isW_sub, isW_quo, isW_rem, isW_and, isW_or, isW_xor, isW_andNot, isW_shl, isW_shr, isW_eql, isW_neq, isW_lss, isW_leq, isW_gtr, isW_geq, Int.reduceLT, aBinW_dF, aBinW_dT, bc_draw, kregD_at, aopsD_nil, aopsD_plain, aopsD_guard, kontD_at, contD_at, yesD_at, noD_at, splD_bool, splD_undef, splD_skip, splD_int, splD_tt, splD_ff, splD_str, splD_nil, splD_sl, splD_prm, splD_ref, splD_ptr, splD_rp, splD_ep, splD_pv, splD_agg, splD_tup, splD_clo, gD_tt, gD_tf, gD_ft, gD_ff, gD_ts, gD_fs, slotO_some, addTr_nil, addTr_cons, memQ_nil, memQ_cons, clash_nil, clash_cons, regC_none, regC_nil, regC_cons, regR_nil, regR_cons, Int.toNat_zero, Int.toNat_one, rng0, rng1, rng2, rng3, rng4, SC.take, SC.drop, mp_nil, acond_ct, acond_cf, mp_one0, mp_one1, mp_one2, mp_one3, kcall_one, liveB_row, liveB_box, idx, cont, still, dies, lend, lendA, lendDies, snocs, SC.snoc, SC.app, meet, AV.cells, fillA, List.getD_cons_zero, List.getD_cons_succ, List.set_cons_zero, List.set_cons_succ, List.length_singleton, Nat.le_refl, Nat.lt_irrefl, Nat.reduceLT, Nat.reduceLeDiff, Option.map_some, Option.map_none, List.flatMap_nil, List.flatMap_cons, Nat.zero_add, BEq.rfl, kcall_two, mp_two0, mp_two1, mp_two2, mp_two3, mp_two4, aop_makeFunc, plainA, Bool.true_and, sl3, ty3, un3, sl56, ty56, un56, sl85, ty85, un85, sl83, ty83, un83, sl5, ty5, un5, sl2, ty2, un2, sl21, ty21, un21, sl4, ty4, un4, sl9, un9, sl22, ty22, un22, sl55, sl62, sl73, sl77, sl86, ty73, ty39, sl39, ty33, sl33, ty79, sl79, ty67, sl67, inR64, inRu64, inRu32, gs_impl_IsFamily_88, at_impl_areSets, lend_impl_areSets, Int.toNat_natCast]
  have e0 : ((i : Int) - 1).toNat = i - 1 := by omega
  rw [e0]
  refine ⟨fun hi => ⟨by omega, by omega, by omega, fun hle => ?_, fun hle => ⟨by omega, ?_⟩⟩, fun hi => ?_⟩
  · rw [famB, allN_f i (by omega) (by have : ¬ ascAt xs i = true := by rw [ascAt_iff]; omega
                                      simpa using this)]; simp
  · exact klp_of (i + 1) (by simp [St.conv, St.bf, getE, putE, getB, cv, cvL, cvB, idx, still, pack, lifts, liftOne, cellsOfB, setB]) ⟨by omega, by omega, upto_succ h3 (by rw [ascAt_iff]; omega)⟩ (by omega)
  · rw [famB, hn, allN_t fun k hk => h3 k (by omega)]; rfl
def lend_impl_IsFamily : List Nat := []
def sp_impl_IsFamily : List AV → List Bx → (AV → List Bx → Prop) → Prop
  | [.agg [.int .i64 n, .sl none (.ints .i64 xs)]], [], K => K (.bool (famB n xs)) []
  | _, _, _ => False
theorem at_impl_IsFamily {n : Int} {xs : List Int} {K : AV → List Bx → Prop} : sp_impl_IsFamily [.agg [.int .i64 n, .sl none (.ints .i64 xs)]] [] K = (K (.bool (famB n xs)) []) := id rfl
theorem ok_impl_IsFamily : ∀ args giv K, sp_impl_IsFamily args giv K → ∃ r outs, ARuns Try.prog 70 args giv r outs ∧ K r outs := by
  intro args giv K hk
  unfold sp_impl_IsFamily at hk
  split at hk
  · exact ⟨_, _, runs_impl_IsFamily _ _ , hk⟩
  · exact hk.elim
theorem is_slices_Clone_int_int : FnIs Try.prog 90 8 [.tmp 2] (Try.f90.body.getD .skip) := ⟨⟨Try.f90, by kernel_rfl, by kernel_rfl, by kernel_rfl, by kernel_rfl⟩, by kernel_rfl, by kernel_rfl⟩
def G_slices_Clone_int_int : Gm := Gm.none
theorem G_slices_Clone_int_int_ok : G_slices_Clone_int_int.ok Try.prog := Gm.none_ok
set_option maxHeartbeats 1000000 in
set_option maxRecDepth 100000 in
theorem runs_slices_Clone_int_int (xs : List Int) (hp1 : xs.length ≤ 1099511627776) : ARuns Try.prog 90 [.sl none (.ints .i64 xs)] [] (.ref 0 xs.length) [.row 3 (.ints .i64 xs)] := by
  exact ARuns_clone is_slices_Clone_int_int.callable (fun b off n c zs w h1 h2 h3 => Try.slices_Clone_int b off n c zs w h1 h2 h3) (fun n c w => Try.slices_Clone_int_nil n c w) (fun a c w => Try.slices_Clone_int_zero a c w) hp1
def lend_slices_Clone_int_int : List Nat := []
def sp_slices_Clone_int_int : List AV → List Bx → (AV → List Bx → Prop) → Prop
  | [.sl none (.ints .i64 xs)], [], K => (xs.length ≤ 1099511627776) ∧ K (.ref 0 xs.length) [.row 3 (.ints .i64 xs)]
  | _, _, _ => False
theorem at_slices_Clone_int_int {xs : List Int} {K : AV → List Bx → Prop} : sp_slices_Clone_int_int [.sl none (.ints .i64 xs)] [] K = ((xs.length ≤ 1099511627776) ∧ K (.ref 0 xs.length) [.row 3 (.ints .i64 xs)]) := id rfl
theorem ok_slices_Clone_int_int : ∀ args giv K, sp_slices_Clone_int_int args giv K → ∃ r outs, ARuns Try.prog 90 args giv r outs ∧ K r outs := by
  intro args giv K hk
  unfold sp_slices_Clone_int_int at hk
  split at hk
  · obtain ⟨hp1, hk⟩ := hk; exact ⟨_, _, runs_slices_Clone_int_int _ hp1, hk⟩
  · exact hk.elim
end Go.Proofs.Ytdpimgmjoecieaa
