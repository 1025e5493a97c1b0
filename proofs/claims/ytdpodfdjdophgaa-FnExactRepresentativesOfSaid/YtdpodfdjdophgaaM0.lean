import Derived.Test.YtdpodfdjdophgaaA31
namespace Go.Proofs.Ytdpodfdjdophgaa
open AM
set_option linter.unusedSimpArgs false
set_option linter.unusedVariables false
theorem sl3 : slTy Try.prog 3 = none := by kernel_rfl
theorem ty3 : tyOf Try.prog 3 = .one (.int .i64 0) := by kernel_rfl
theorem un3 : Try.prog.underlying 3 = some (.int .i64) := by kernel_rfl
theorem sl49 : slTy Try.prog 49 = none := by kernel_rfl
theorem ty49 : tyOf Try.prog 49 = .one (.int .u64 0) := by kernel_rfl
theorem un49 : Try.prog.underlying 49 = some (.int .u64) := by kernel_rfl
theorem sl71 : slTy Try.prog 71 = none := by kernel_rfl
theorem ty71 : tyOf Try.prog 71 = .one (.int .u64 0) := by kernel_rfl
theorem un71 : Try.prog.underlying 71 = some (.int .u64) := by kernel_rfl
theorem sl69 : slTy Try.prog 69 = none := by kernel_rfl
theorem ty69 : tyOf Try.prog 69 = .one (.int .u32 0) := by kernel_rfl
theorem un69 : Try.prog.underlying 69 = some (.int .u32) := by kernel_rfl
theorem sl5 : slTy Try.prog 5 = none := by kernel_rfl
theorem ty5 : tyOf Try.prog 5 = .one (.int .u8 0) := by kernel_rfl
theorem un5 : Try.prog.underlying 5 = some (.int .u8) := by kernel_rfl
theorem sl2 : slTy Try.prog 2 = none := by kernel_rfl
theorem ty2 : tyOf Try.prog 2 = .one (.int .i64 0) := by kernel_rfl
theorem un2 : Try.prog.underlying 2 = some (.int .i64) := by kernel_rfl
theorem sl21 : slTy Try.prog 21 = none := by kernel_rfl
theorem ty21 : tyOf Try.prog 21 = .one (.int .i32 0) := by kernel_rfl
theorem un21 : Try.prog.underlying 21 = some (.int .i32) := by kernel_rfl
theorem sl4 : slTy Try.prog 4 = none := by kernel_rfl
theorem ty4 : tyOf Try.prog 4 = .one .ff := by kernel_rfl
theorem un4 : Try.prog.underlying 4 = some .bool := by kernel_rfl
theorem sl9 : slTy Try.prog 9 = none := by kernel_rfl
theorem un9 : Try.prog.underlying 9 = some .string := by kernel_rfl
theorem sl22 : slTy Try.prog 22 = some (3, .ints .i64 []) := by kernel_rfl
theorem ty22 : tyOf Try.prog 22 = .one .nil := by kernel_rfl
theorem un22 : Try.prog.underlying 22 = some (.slice 3) := by kernel_rfl
theorem sl31 : slTy Try.prog 31 = some (22, .rows (some 3) []) := by kernel_rfl
theorem ty31 : tyOf Try.prog 31 = .one .nil := by kernel_rfl
theorem un31 : Try.prog.underlying 31 = some (.slice 22) := by kernel_rfl
theorem sl36 : slTy Try.prog 36 = none := by kernel_rfl
theorem sl53 : slTy Try.prog 53 = none := by kernel_rfl
theorem ty38 : tyOf Try.prog 38 = .flat [.int .i64 0, .nil] := by kernel_rfl
theorem sl38 : slTy Try.prog 38 = none := by kernel_rfl
theorem ty41 : tyOf Try.prog 41 = .flat [.int .i64 0, .nil] := by kernel_rfl
theorem sl41 : slTy Try.prog 41 = none := by kernel_rfl
theorem inR64 {n : Int} : InR .i64 n = (-9223372036854775808 ≤ n ∧ n ≤ 9223372036854775807) := rfl
theorem inRu64 {n : Int} : InR .u64 n = (0 ≤ n ∧ n ≤ 18446744073709551615) := rfl
theorem inRu32 {n : Int} : InR .u32 n = (0 ≤ n ∧ n ≤ 4294967295) := rfl
theorem wrap64 {n : Nat} (h : n < 2 ^ 63) : IntKind.wrap .i64 (n : Int) = n := by
  have h1 : (n : Int) % 2 ^ 64 = n := Int.emod_eq_of_lt (by omega) (by omega)
  simp only [IntKind.wrap, IntKind.bits, IntKind.signed, h1]
  rw [if_neg]
  simp; omega
theorem ofInt_nat {a : Nat} : BitVec.ofInt 64 (a : Int) = BitVec.ofNat 64 a := by simp
theorem bnd {a : Int} (h : 0 ≤ a) : a = ((a.toNat : Nat) : Int) := by omega
theorem band_nat {a b : Nat} (ha : a < 2 ^ 63) (hb : b < 2 ^ 63) : band .i64 a b = ((a &&& b : Nat) : Int) := by
  show IntKind.wrap .i64 ((BitVec.ofInt 64 (a : Int) &&& BitVec.ofInt 64 (b : Int)).toNat : Int) = _
  rw [ofInt_nat, ofInt_nat, BitVec.toNat_and, BitVec.toNat_ofNat, BitVec.toNat_ofNat]
  rw [Nat.mod_eq_of_lt (by omega), Nat.mod_eq_of_lt (by omega)]
  exact wrap64 (Nat.lt_of_le_of_lt Nat.and_le_left ha)
theorem bor_nat {a b : Nat} (ha : a < 2 ^ 63) (hb : b < 2 ^ 63) : bor .i64 a b = ((a ||| b : Nat) : Int) := by
  show IntKind.wrap .i64 ((BitVec.ofInt 64 (a : Int) ||| BitVec.ofInt 64 (b : Int)).toNat : Int) = _
  rw [ofInt_nat, ofInt_nat, BitVec.toNat_or, BitVec.toNat_ofNat, BitVec.toNat_ofNat]
  rw [Nat.mod_eq_of_lt (by omega), Nat.mod_eq_of_lt (by omega)]
  exact wrap64 (Nat.or_lt_two_pow ha hb)
theorem bxor_nat {a b : Nat} (ha : a < 2 ^ 63) (hb : b < 2 ^ 63) : bxor .i64 a b = ((a ^^^ b : Nat) : Int) := by
  show IntKind.wrap .i64 ((BitVec.ofInt 64 (a : Int) ^^^ BitVec.ofInt 64 (b : Int)).toNat : Int) = _
  rw [ofInt_nat, ofInt_nat, BitVec.toNat_xor, BitVec.toNat_ofNat, BitVec.toNat_ofNat]
  rw [Nat.mod_eq_of_lt (by omega), Nat.mod_eq_of_lt (by omega)]
  exact wrap64 (Nat.xor_lt_two_pow ha hb)
/-- a without b's bits. -/
theorem bandn_nat {a b : Nat} (ha : a < 2 ^ 63) (hb : b < 2 ^ 63) : bandn .i64 a b = ((a ^^^ (a &&& b) : Nat) : Int) := by
  have e : (BitVec.ofNat 64 a &&& ~~~ BitVec.ofNat 64 b) = BitVec.ofNat 64 a ^^^ (BitVec.ofNat 64 a &&& BitVec.ofNat 64 b) := by
    ext i hi
    simp only [BitVec.getElem_and, BitVec.getElem_not, BitVec.getElem_xor]
    cases (BitVec.ofNat 64 a)[i] <;> cases (BitVec.ofNat 64 b)[i] <;> rfl
  show IntKind.wrap .i64 ((BitVec.ofInt 64 (a : Int) &&& ~~~ BitVec.ofInt 64 (b : Int)).toNat : Int) = _
  rw [ofInt_nat, ofInt_nat, e, BitVec.toNat_xor, BitVec.toNat_and, BitVec.toNat_ofNat, BitVec.toNat_ofNat]
  rw [Nat.mod_eq_of_lt (show a < 2 ^ 64 by omega), Nat.mod_eq_of_lt (show b < 2 ^ 64 by omega)]
  exact wrap64 (Nat.xor_lt_two_pow ha (Nat.lt_of_le_of_lt Nat.and_le_left ha))
theorem xor_and_zero {a b : Nat} : a ^^^ (a &&& b) = 0 ↔ a &&& b = a := by
  constructor
  · intro h
    have : a ^^^ (a ^^^ (a &&& b)) = a ^^^ 0 := by rw [h]
    rwa [← Nat.xor_assoc, Nat.xor_self, Nat.zero_xor, Nat.xor_zero] at this
  · intro h; rw [h, Nat.xor_self]
theorem bandn_zero {a b : Int} (ha : 0 ≤ a ∧ a < 2 ^ 63) (hb : 0 ≤ b ∧ b < 2 ^ 63) : bandn .i64 a b = 0 ↔ band .i64 a b = a := by
  obtain ⟨a, rfl⟩ := Int.eq_ofNat_of_zero_le ha.1
  obtain ⟨b, rfl⟩ := Int.eq_ofNat_of_zero_le hb.1
  rw [bandn_nat (by omega) (by omega), band_nat (by omega) (by omega)]
  have := @xor_and_zero a b
  omega

def popF : Nat → Nat → Nat
  | 0, _ => 0
  | f + 1, n => n % 2 + popF f (n / 2)
def pop (n : Nat) : Nat := popF 64 n
def popI (s : Int) : Int := (pop s.toNat : Int)
theorem popF_zero : ∀ f, popF f 0 = 0
  | 0 => rfl
  | f + 1 => by simp [popF, popF_zero f]
theorem popF_enough : ∀ {f n : Nat}, n < 2 ^ f → popF (f + 1) n = popF f n
  | 0, n, h => by have : n = 0 := by simpa using h
                  subst this; rfl
  | f + 1, n, h => by
    have : n / 2 < 2 ^ f := by rw [Nat.pow_succ] at h; omega
    rw [popF, popF_enough this, popF]
theorem pop_step {n : Nat} (h : n < 2 ^ 64) : pop n = n % 2 + pop (n / 2) := by
  have : n / 2 < 2 ^ 63 := by omega
  unfold pop
  rw [popF, ← popF_enough this]
theorem pop_zero : pop 0 = 0 := popF_zero _
theorem popF_le : ∀ f n, popF f n ≤ f
  | 0, _ => Nat.le_refl _
  | f + 1, n => by have := popF_le f (n / 2); simp only [popF]; omega
theorem pop_le {n : Nat} : pop n ≤ 64 := popF_le _ _
theorem band_one {x : Int} (h : 0 ≤ x ∧ x < 2 ^ 63) : band .i64 x 1 = x % 2 := by
  obtain ⟨a, rfl⟩ := Int.eq_ofNat_of_zero_le h.1
  have := band_nat (a := a) (b := 1) (by omega) (by omega)
  rw [show ((1 : Nat) : Int) = 1 from rfl] at this
  rw [this, Nat.and_one_is_mod]; omega

theorem getD_get {xs : List Int} {i : Nat} (h : i < xs.length) : xs.getD i 0 = xs[i] := by rw [List.getD_eq_getElem?_getD, List.getElem?_eq_getElem h]; rfl
theorem take_succ_getD {xs : List Int} {i : Nat} (h : i < xs.length) : xs.take (i + 1) = xs.take i ++ [xs.getD i 0] := by
  rw [List.take_add_one, List.getElem?_eq_getElem h, getD_get h]; rfl
theorem copy_step {xs : List Int} {i : Nat} (h : i < xs.length) : (xs.take i ++ List.replicate (xs.length - i) 0).set i (xs.getD i 0) = xs.take (i + 1) ++ List.replicate (xs.length - (i + 1)) 0 := by
  have e : (xs.take i).length = i := by rw [List.length_take]; omega
  obtain ⟨m, hm⟩ : ∃ m, xs.length - i = m + 1 := ⟨xs.length - i - 1, by omega⟩
  rw [List.set_append_right _ _ (by omega), e, Nat.sub_self, hm, List.replicate_succ, List.set_cons_zero, take_succ_getD h, show xs.length - (i + 1) = m by omega, List.append_assoc]; rfl
/-- Two lists, element by element. -/
theorem eq_of_get {xs ys : List Int} (hl : xs.length = ys.length) (h : ∀ i, i < xs.length → xs.getD i 0 = ys.getD i 0) : xs = ys := by
  apply List.ext_getElem hl
  intro i h1 h2
  have := h i h1
  rwa [getD_get h1, getD_get h2] at this

/-- Those of the first n that are elements. -/
def elemsF (s : Nat) : Nat → List Int
  | 0 => []
  | n + 1 => if s / 2 ^ n % 2 = 1 then elemsF s n ++ [(n : Int)] else elemsF s n
theorem elemsF_len {s : Nat} : ∀ {n : Nat}, (elemsF s n).length ≤ n
  | 0 => by simp [elemsF]
  | n + 1 => by
    have := elemsF_len (s := s) (n := n)
    simp only [elemsF]; split
    · simp; omega
    · omega
theorem elemsF_t {s n : Nat} (h : s / 2 ^ n % 2 = 1) : elemsF s (n + 1) = elemsF s n ++ [(n : Int)] := by rw [elemsF, if_pos h]
theorem elemsF_f {s n : Nat} (h : ¬ s / 2 ^ n % 2 = 1) : elemsF s (n + 1) = elemsF s n := by rw [elemsF, if_neg h]
theorem elemsF_stop {s i : Nat} (h : s / 2 ^ i = 0) : ∀ k, elemsF s (i + k) = elemsF s i
  | 0 => rfl
  | k + 1 => by
    have h1 : s / 2 ^ (i + k) = 0 := by rw [Nat.pow_add, ← Nat.div_div_eq_div_mul, h, Nat.zero_div]
    rw [← Nat.add_assoc, elemsF_f (by rw [h1]; decide), elemsF_stop h k]
/-- The elements of a set. -/
def elemsL (s : Int) : List Int := elemsF s.toNat 62
theorem elemsL_len {s : Int} : (elemsL s).length ≤ 62 := elemsF_len
theorem elems_at {s i : Nat} (h : s / 2 ^ i = 0) (hi : i ≤ 62) : elemsL s = elemsF s i := by
  have := elemsF_stop h (62 - i)
  rw [show i + (62 - i) = 62 by omega] at this
  exact this
theorem elems_lt {s i : Nat} (hs : s < 2 ^ 62) (h : ¬ s / 2 ^ i = 0) : i < 62 := by
  by_cases hc : i < 62
  · exact hc
  · exfalso
    apply h
    have : (2 : Nat) ^ 62 ≤ 2 ^ i := Nat.pow_le_pow_right (by omega) (by omega)
    exact Nat.div_eq_of_lt (by omega)
theorem div_next {s i : Nat} : s / 2 ^ (i + 1) = s / 2 ^ i / 2 := by rw [Nat.pow_succ, Nat.div_div_eq_div_mul]
theorem pop_fit : ∀ {n s : Nat}, s < 2 ^ n → n ≤ 62 → pop s ≤ n
  | 0, s, h, _ => by have : s = 0 := by simpa using h
                     subst this; rw [pop_zero]; omega
  | n + 1, s, h, hn => by
    rw [Nat.pow_succ] at h
    have h2 : (2 : Nat) ^ n ≤ 2 ^ 62 := Nat.pow_le_pow_right (by omega) (by omega)
    have := pop_fit (n := n) (s := s / 2) (by omega) (by omega)
    rw [pop_step (by omega)]
    omega

/-- For all indices below n. -/
def allN (n : Nat) (p : Nat → Bool) : Bool := (List.range n).all p
theorem allN_iff {n : Nat} {p : Nat → Bool} : allN n p = true ↔ ∀ i, i < n → p i = true := by simp [allN, List.all_eq_true]
theorem allN_t {n : Nat} {p : Nat → Bool} (h : ∀ i, i < n → p i = true) : allN n p = true := allN_iff.2 h
theorem allN_f {n : Nat} {p : Nat → Bool} (i : Nat) (hi : i < n) (h : p i = false) : allN n p = false := by
  cases hh : allN n p with
  | false => rfl
  | true => rw [allN_iff.1 hh i hi] at h; cases h
theorem allN_congr {n : Nat} {p q : Nat → Bool} (h : ∀ i, i < n → p i = q i) : allN n p = allN n q := by
  rw [Bool.eq_iff_iff, allN_iff, allN_iff]
  exact ⟨fun hh i hi => by rw [← h i hi]; exact hh i hi, fun hh i hi => by rw [h i hi]; exact hh i hi⟩
theorem and_f1 {a b : Bool} (h : a = false) : (a && b) = false := by simp [h]
theorem and_f2 {a b : Bool} (h : b = false) : (a && b) = false := by simp [h]
theorem and_tt {a b : Bool} (h : a = true) (h' : b = true) : (a && b) = true := by simp [h, h']
theorem upto_succ {p : Nat → Bool} {i : Nat} (h : ∀ k, k < i → p k = true) (hi : p i = true) : ∀ k, k < i + 1 → p k = true := fun k hk => by
  by_cases e : k = i
  · rw [e]; exact hi
  · exact h k (by omega)
theorem allN_succ {n : Nat} {p : Nat → Bool} : allN (n + 1) p = (allN n p && p n) := by
  rw [Bool.eq_iff_iff, Bool.and_eq_true, allN_iff, allN_iff]
  constructor
  · intro h; exact ⟨fun i hi => h i (by omega), h n (by omega)⟩
  · intro h; exact upto_succ h.1 h.2

def inB (n l m : Int) : Bool := decide (l ≤ n) && decide (n ≤ m)
theorem inB_t {n l m : Int} : (inB n l m = true) = (l ≤ n ∧ n ≤ m) := by simp [inB]
theorem inB_f {n l m : Int} : (inB n l m = false) = ¬ (l ≤ n ∧ n ≤ m) := by rw [← inB_t]; simp

/-- All elements, as bits. -/
def fullI (n : Int) : Int := 2 ^ n.toNat - 1
theorem full_bd {n : Int} (h : 0 ≤ n ∧ n ≤ 10) : 0 ≤ fullI n ∧ fullI n ≤ 1023 := by
  have h1 : (2 : Nat) ^ n.toNat ≤ 2 ^ 10 := Nat.pow_le_pow_right (by omega) (by omega)
  have h2 : 0 < (2 : Nat) ^ n.toNat := Nat.two_pow_pos _
  have e : ((2 ^ n.toNat : Nat) : Int) = 2 ^ n.toNat := by simp
  unfold fullI
  omega
theorem full_bd6 {n : Int} (h : 0 ≤ n ∧ n ≤ 6) : 0 ≤ fullI n ∧ fullI n ≤ 63 := by
  have h1 : (2 : Nat) ^ n.toNat ≤ 2 ^ 6 := Nat.pow_le_pow_right (by omega) (by omega)
  have h2 : 0 < (2 : Nat) ^ n.toNat := Nat.two_pow_pos _
  have e : ((2 ^ n.toNat : Nat) : Int) = 2 ^ n.toNat := by simp
  unfold fullI
  omega
def inS (n s : Int) : Bool := inB s 0 (fullI n)
/-- Sets of n elements. -/
def setsOk (n : Int) (xs : List Int) : Bool := inB n 0 6 && allN xs.length fun i => inS n (xs.getD i 0)
theorem setsOk_iff {n : Int} {xs : List Int} : setsOk n xs = true ↔ inB n 0 6 = true ∧ ∀ i, i < xs.length → inS n (xs.getD i 0) = true := by
  simp only [setsOk, Bool.and_eq_true, allN_iff]
theorem setsOk_bd {n : Int} {xs : List Int} (h : setsOk n xs = true) : (0 ≤ n ∧ n ≤ 6) ∧ ∀ i, i < xs.length → 0 ≤ xs.getD i 0 ∧ xs.getD i 0 ≤ 63 ∧ xs.getD i 0 ≤ fullI n := by
  rw [setsOk_iff, inB_t] at h
  have hf := full_bd6 h.1
  refine ⟨h.1, fun i hi => ?_⟩
  have := h.2 i hi
  rw [inS, inB_t] at this
  omega
def ascAt (xs : List Int) (i : Nat) : Bool := i == 0 || decide (xs.getD (i - 1) 0 < xs.getD i 0)
/-- A family: sets that ascend. -/
def famB (n : Int) (xs : List Int) : Bool := setsOk n xs && allN xs.length (ascAt xs)
theorem famB_iff {n : Int} {xs : List Int} : famB n xs = true ↔ setsOk n xs = true ∧ ∀ i, i < xs.length → ascAt xs i = true := by
  simp only [famB, Bool.and_eq_true, allN_iff]
theorem famB_f {n : Int} {xs : List Int} (h : ¬ (setsOk n xs = true ∧ ∀ i, i < xs.length → ascAt xs i = true)) : famB n xs = false := by
  rw [← famB_iff] at h; simpa using h
theorem famB_bd {n : Int} {xs : List Int} (h : famB n xs = true) : (0 ≤ n ∧ n ≤ 6) ∧ ∀ i, i < xs.length → 0 ≤ xs.getD i 0 ∧ xs.getD i 0 ≤ 63 ∧ xs.getD i 0 ≤ fullI n := setsOk_bd (famB_iff.1 h).1
theorem ascAt_iff {xs : List Int} {i : Nat} : ascAt xs i = true ↔ (i = 0 ∨ xs.getD (i - 1) 0 < xs.getD i 0) := by
  unfold ascAt
  generalize xs.getD (i - 1) 0 = a
  generalize xs.getD i 0 = b
  simp

def orBit (s e : Int) : Int := bor .i64 s (1 * 2 ^ e.toNat)
def bitAt (s e : Int) : Bool := decide (band .i64 (s / 2 ^ e.toNat) 1 = 1)
/-- The elements of a list as bits. -/
def seen (xs : List Int) : Int := xs.foldl orBit 0
theorem seen_nil : seen [] = 0 := rfl
theorem seen_snoc {xs : List Int} {x : Int} : seen (xs ++ [x]) = orBit (seen xs) x := by simp [seen]
theorem seen_succ {xs : List Int} {i : Nat} (h : i < xs.length) : seen (xs.take (i + 1)) = orBit (seen (xs.take i)) (xs.getD i 0) := by rw [take_succ_getD h, seen_snoc]
def okAt (n : Int) (xs : List Int) (i : Nat) : Bool := inB (xs.getD i 0) 0 (n - 1) && !bitAt (seen (xs.take i)) (xs.getD i 0)
def permB (n : Int) (xs : List Int) : Bool := decide ((xs.length : Int) = n) && (List.range xs.length).all (okAt n xs)
theorem permB_iff {n : Int} {xs : List Int} : permB n xs = true ↔ (xs.length : Int) = n ∧ ∀ i, i < xs.length → okAt n xs i = true := by
  simp [permB, List.all_eq_true]
theorem permB_false {n : Int} {xs : List Int} (h : ¬ ((xs.length : Int) = n ∧ ∀ i, i < xs.length → okAt n xs i = true)) : permB n xs = false := by
  rw [← permB_iff] at h; simpa using h
theorem pow_le62 {e : Int} (h : 0 ≤ e ∧ e ≤ 62) : 0 ≤ (1 : Int) * 2 ^ e.toNat ∧ (1 : Int) * 2 ^ e.toNat ≤ 2 ^ 62 := by
  have : (2 : Nat) ^ e.toNat ≤ 2 ^ 62 := Nat.pow_le_pow_right (by omega) (by omega)
  have h := Int.ofNat_le.2 this
  have h0 : (0 : Int) ≤ 2 ^ e.toNat := Int.pow_nonneg (by omega)
  simp at h
  omega
theorem okAt_iff {n : Int} {xs : List Int} {i : Nat} : okAt n xs i = true ↔ inB (xs.getD i 0) 0 (n - 1) = true ∧ ¬ band .i64 (seen (xs.take i) / 2 ^ (xs.getD i 0).toNat) 1 = 1 := by
  unfold okAt bitAt
  generalize xs.getD i 0 = e
  simp
/-- An order of at most six elements. -/
def ord6 (xs : List Int) : Bool := decide (xs.length ≤ 6) && permB xs.length xs
theorem ord6_t {xs : List Int} (h : ord6 xs = true) : xs.length ≤ 6 ∧ ∀ i, i < xs.length → 0 ≤ xs.getD i 0 ∧ xs.getD i 0 < 6 := by
  simp only [ord6, Bool.and_eq_true, decide_eq_true_eq] at h
  refine ⟨h.1, fun i hi => ?_⟩
  have := ((permB_iff.1 h.2).2 i hi)
  rw [okAt_iff, inB_t] at this
  omega
/-- The elements from a to b, as bits. -/
def sliceB (xs : List Int) (a b : Int) : Int := seen ((xs.take (b + 1).toNat).drop a.toNat)
def soiOk (xs : List Int) (a b : Int) : Bool := ord6 xs && (inB a 0 (xs.length - 1) && inB b a (xs.length - 1))
def soi (xs : List Int) (a b : Int) : Int := if soiOk xs a b = true then sliceB xs a b else 0
theorem soi_f {xs : List Int} {a b : Int} (h : ¬ (ord6 xs = true ∧ inB a 0 (xs.length - 1) = true ∧ inB b a (xs.length - 1) = true)) : soiOk xs a b = false ∧ soi xs a b = 0 := by
  have e : soiOk xs a b = false := by
    cases hh : soiOk xs a b with
    | false => rfl
    | true => exact absurd (by simpa [soiOk] using hh) h
  exact ⟨e, by simp [soi, e]⟩
theorem soi_t {xs : List Int} {a b : Int} (h : ord6 xs = true ∧ inB a 0 (xs.length - 1) = true ∧ inB b a (xs.length - 1) = true) : soiOk xs a b = true ∧ soi xs a b = sliceB xs a b := by
  have e : soiOk xs a b = true := by simpa [soiOk] using h
  exact ⟨e, by simp [soi, e]⟩
theorem sliceB_next {xs : List Int} {a : Int} {i : Nat} (ha : 0 ≤ a ∧ a.toNat ≤ i) (hi : i < xs.length) : seen ((xs.take (i + 1)).drop a.toNat) = orBit (seen ((xs.take i).drop a.toNat)) (xs.getD i 0) := by
  rw [take_succ_getD hi, List.drop_append_of_le_length (by rw [List.length_take]; omega), seen_snoc]

/-- At most six sets. -/
def fewB (n : Int) (l : List Int) : Bool := decide (l.length ≤ 6) && setsOk n l
theorem fewB_iff {n : Int} {l : List Int} : fewB n l = true ↔ l.length ≤ 6 ∧ setsOk n l = true := by simp [fewB]
theorem fewB_f {n : Int} {l : List Int} (h : ¬ (l.length ≤ 6 ∧ setsOk n l = true)) : fewB n l = false := by
  rw [← fewB_iff] at h; simpa using h
/-- An element of the i-th set that is no other one's. -/
def repAt (n : Int) (l x : List Int) (i : Nat) : Bool :=
  decide (inB (x.getD i 0) 0 (n - 1) = true ∧ ¬ band .i64 (l.getD i 0 / 2 ^ (x.getD i 0).toNat) 1 = 0 ∧ ¬ band .i64 (seen (x.take i) / 2 ^ (x.getD i 0).toNat) 1 = 1)
theorem repAt_t {n : Int} {l x : List Int} {i : Nat} (h : inB (x.getD i 0) 0 (n - 1) = true ∧ ¬ band .i64 (l.getD i 0 / 2 ^ (x.getD i 0).toNat) 1 = 0 ∧ ¬ band .i64 (seen (x.take i) / 2 ^ (x.getD i 0).toNat) 1 = 1) : repAt n l x i = true := by
  unfold repAt; exact decide_eq_true h
theorem repAt_f {n : Int} {l x : List Int} {i : Nat} (h : ¬ (inB (x.getD i 0) 0 (n - 1) = true ∧ ¬ band .i64 (l.getD i 0 / 2 ^ (x.getD i 0).toNat) 1 = 0 ∧ ¬ band .i64 (seen (x.take i) / 2 ^ (x.getD i 0).toNat) 1 = 1)) : repAt n l x i = false := by
  unfold repAt; exact decide_eq_false h
def repB (n : Int) (l x : List Int) : Bool := (fewB n l && decide (x.length = l.length)) && allN x.length (repAt n l x)

/-- The greatest of the first i, at least 0. -/
def maxTo (f : Nat → Int) : Nat → Int
  | 0 => 0
  | i + 1 => if maxTo f i < f i then f i else maxTo f i
theorem maxTo_bd {f : Nat → Int} {b : Int} (hb : 0 ≤ b) : ∀ {n : Nat}, (∀ i, i < n → f i ≤ b) → 0 ≤ maxTo f n ∧ maxTo f n ≤ b
  | 0, _ => by simp [maxTo, hb]
  | n + 1, h => by
    have h1 := maxTo_bd hb (n := n) fun i hi => h i (by omega)
    have h2 := h n (by omega)
    simp only [maxTo]; split <;> omega
theorem maxTo_congr {f g : Nat → Int} : ∀ {n : Nat}, (∀ i, i < n → f i = g i) → maxTo f n = maxTo g n
  | 0, _ => rfl
  | n + 1, h => by simp only [maxTo]; rw [maxTo_congr fun i hi => h i (by omega), h n (by omega)]

/-- The elements of those of the first i sets that are chosen. -/
def unionF (l : List Int) (code : Int) : Nat → Int
  | 0 => 0
  | i + 1 => if band .i64 (code / 2 ^ i) 1 = 1 then bor .i64 (unionF l code i) (l.getD i 0) else unionF l code i
theorem unionF_bd {l : List Int} {code : Int} : ∀ {n : Nat}, (∀ i, i < n → 0 ≤ l.getD i 0 ∧ l.getD i 0 ≤ 63) → 0 ≤ unionF l code n ∧ unionF l code n ≤ 63
  | 0, _ => by simp [unionF]
  | n + 1, h => by
    have h1 := unionF_bd (code := code) (n := n) fun i hi => h i (by omega)
    have h2 := h n (by omega)
    simp only [unionF]
    split
    · generalize unionF l code n = a at *
      generalize l.getD n 0 = b at *
      obtain ⟨a, rfl⟩ := Int.eq_ofNat_of_zero_le h1.1
      obtain ⟨b, rfl⟩ := Int.eq_ofNat_of_zero_le h2.1
      rw [bor_nat (by omega) (by omega)]
      have := Nat.or_lt_two_pow (x := a) (y := b) (n := 6) (by omega) (by omega)
      omega
    · exact h1
def lackI (l : List Int) (code : Int) : Int := popI code - popI (unionF l code l.length)
theorem popI_bd {s : Int} : 0 ≤ popI s ∧ popI s ≤ 64 := by unfold popI; have := @pop_le s.toNat; omega
theorem lackI_le {l : List Int} {c : Int} : lackI l c ≤ 64 := by
  unfold lackI
  have h1 := @popI_bd c
  have h2 := @popI_bd (unionF l c l.length)
  omega
def lackN (l : List Int) (c : Nat) : Int := lackI l c
def defI (n : Int) (l : List Int) : Int := if fewB n l = true then maxTo (lackN l) (2 ^ l.length) else -1
theorem maxTo_succ {f : Nat → Int} {i : Nat} : maxTo f (i + 1) = if maxTo f i < f i then f i else maxTo f i := rfl
theorem two_pow6 {n : Nat} (h : n ≤ 6) : (1 : Int) * 2 ^ n = ((2 ^ n : Nat) : Int) ∧ 2 ^ n ≤ 64 ∧ 1 ≤ 2 ^ n := by
  have h1 : (2 : Nat) ^ n ≤ 2 ^ 6 := Nat.pow_le_pow_right (by omega) h
  have h2 : 0 < (2 : Nat) ^ n := Nat.two_pow_pos _
  refine ⟨by simp, by omega, by omega⟩

theorem band_comm {a b : Int} : band .i64 a b = band .i64 b a := by unfold band; rw [BitVec.and_comm]
def meetN (a b : Int) : Bool := !decide (band .i64 a b = 0)
theorem meetN_comm {a b : Int} : meetN a b = meetN b a := by unfold meetN; rw [band_comm]
theorem meetN_f {a b : Int} (h : band .i64 a b = 0) : meetN a b = false := by simp [meetN, h]
theorem meetN_t {a b : Int} (h : ¬ band .i64 a b = 0) : meetN a b = true := by simp [meetN, h]
/-- s meets all. -/
def meetsB (xs : List Int) (s : Int) : Bool := allN xs.length fun i => meetN (xs.getD i 0) s
/-- Any two meet. -/
def interB (xs : List Int) : Bool := allN xs.length fun i => allN (i + 1) fun k => meetN (xs.getD i 0) (xs.getD k 0)
theorem interB_eq {xs : List Int} : interB xs = allN xs.length fun i => meetsB xs (xs.getD i 0) := by
  rw [Bool.eq_iff_iff]
  simp only [interB, meetsB, allN_iff]
  constructor
  · intro h i hi k hk
    by_cases hle : k ≤ i
    · rw [meetN_comm]; exact h i hi k (by omega)
    · exact h k hk i (by omega)
  · intro h i hi k hk
    exact h k (by omega) i hi

def dist (xs : List Int) (i k : Nat) : Bool := !decide (xs.getD k 0 = xs.getD i 0)
theorem dist_f {xs : List Int} {i k : Nat} (h : xs.getD k 0 = xs.getD i 0) : dist xs i k = false := by
  unfold dist; rw [h]; simp
theorem dist_t {xs : List Int} {i k : Nat} (h : ¬ xs.getD k 0 = xs.getD i 0) : dist xs i k = true := by
  unfold dist; rw [decide_eq_false h]; rfl
theorem dist_iff {xs : List Int} {i k : Nat} : dist xs i k = true ↔ ¬ xs.getD k 0 = xs.getD i 0 := ⟨fun h e => (by rw [dist_f e] at h; cases h), dist_t⟩
/-- At most 64 different sets. -/
def sunV (xs : List Int) : Bool := decide (xs.length ≤ 64) && allN xs.length fun i => inS 6 (xs.getD i 0) && allN i fun k => dist xs i k
def core (xs : List Int) : Int := band .i64 (xs.getD 0 0) (xs.getD 1 0)
def coreAt (xs : List Int) (i k : Nat) : Bool := decide (band .i64 (xs.getD i 0) (xs.getD k 0) = core xs)
theorem coreAt_iff {xs : List Int} {i k : Nat} : coreAt xs i k = true ↔ band .i64 (xs.getD i 0) (xs.getD k 0) = core xs := by unfold coreAt; exact decide_eq_true_iff
def sunC (xs : List Int) : Bool := allN xs.length fun i => allN i fun k => coreAt xs i k
def sunB (xs : List Int) : Bool := sunV xs && sunC xs
/-- s is a further petal. -/
def petalAt (xs : List Int) (s : Int) (j : Nat) : Bool :=
  decide (¬ xs.getD j 0 = s ∧ band .i64 s (xs.getD j 0) = band .i64 s (xs.getD 0 0) ∧ (0 < j → band .i64 s (xs.getD j 0) = core xs))
theorem petalAt_iff {xs : List Int} {s : Int} {j : Nat} : petalAt xs s j = true ↔ (¬ xs.getD j 0 = s ∧ band .i64 s (xs.getD j 0) = band .i64 s (xs.getD 0 0) ∧ (0 < j → band .i64 s (xs.getD j 0) = core xs)) := by
  unfold petalAt; exact decide_eq_true_iff
theorem petalAt_f {xs : List Int} {s : Int} {j : Nat} (h : ¬ (¬ xs.getD j 0 = s ∧ band .i64 s (xs.getD j 0) = band .i64 s (xs.getD 0 0) ∧ (0 < j → band .i64 s (xs.getD j 0) = core xs))) : petalAt xs s j = false := by
  unfold petalAt; exact decide_eq_false h
def petalB (xs : List Int) (s : Int) : Bool := allN xs.length (petalAt xs s)
def sunI (xs : List Int) : Bool := (decide (xs.length ≤ 64) && setsOk 6 xs) && allN xs.length fun i => petalB (xs.take i) (xs.getD i 0)
theorem take_getD {xs : List Int} {i j : Nat} (h : j < i) : (xs.take i).getD j 0 = xs.getD j 0 := by
  rw [List.getD_eq_getElem?_getD, List.getElem?_take, if_pos h, ← List.getD_eq_getElem?_getD]
theorem sun_eq {xs : List Int} : sunI xs = sunB xs := by
  have l6 : inB 6 0 6 = true := by decide
  rw [Bool.eq_iff_iff]
  simp only [sunI, sunB, sunV, sunC, setsOk, petalB, Bool.and_eq_true, allN_iff, decide_eq_true_eq, l6, true_and, dist_iff, coreAt_iff]
  constructor
  · rintro ⟨⟨h1, h2⟩, h3⟩
    have h4 : ∀ i, i < xs.length → ∀ j, j < i → ¬ xs.getD j 0 = xs.getD i 0 ∧ band .i64 (xs.getD i 0) (xs.getD j 0) = band .i64 (xs.getD i 0) (xs.getD 0 0) ∧ (0 < j → band .i64 (xs.getD i 0) (xs.getD j 0) = core (xs.take i)) := by
      intro i hi j hj
      have := petalAt_iff.1 (h3 i hi j (by rw [List.length_take]; omega))
      rw [take_getD hj, take_getD (show 0 < i by omega)] at this
      exact this
    have hc : ∀ i, 1 < i → core (xs.take i) = core xs := fun i hi => by
      unfold core; rw [take_getD (show 0 < i by omega), take_getD hi]
    refine ⟨⟨h1, fun i hi => ⟨h2 i hi, fun k hk => (h4 i hi k hk).1⟩⟩, fun i hi k hk => ?_⟩
    have hk' := h4 i hi k hk
    by_cases h0 : 0 < k
    · rw [hk'.2.2 h0, hc i (by omega)]
    · have : k = 0 := by omega
      subst this
      by_cases h1 : i = 1
      · subst h1; rw [band_comm]; rfl
      · have h5 := h4 i hi 1 (by omega)
        rw [← h5.2.1, h5.2.2 (by omega), hc i (by omega)]
  · rintro ⟨⟨h1, h2⟩, h3⟩
    refine ⟨⟨h1, fun i hi => (h2 i hi).1⟩, fun i hi j hj => ?_⟩
    rw [List.length_take] at hj
    have hj' : j < i := by omega
    rw [petalAt_iff, take_getD hj', take_getD (show 0 < i by omega)]
    refine ⟨(h2 i hi).2 j hj', by rw [h3 i hi j hj', h3 i hi 0 (by omega)], fun h0 => ?_⟩
    rw [h3 i hi j hj']
    unfold core
    rw [take_getD (show 0 < i by omega), take_getD (show 1 < i by omega)]
def kernOk (xs : List Int) : Bool := decide (2 ≤ xs.length) && sunB xs
def kernI (xs : List Int) : Int := if kernOk xs = true then core xs else 0
theorem kern_f {xs : List Int} (h : ¬ (2 ≤ xs.length ∧ sunB xs = true)) : kernOk xs = false ∧ kernI xs = 0 := by
  have e : kernOk xs = false := by
    cases hh : kernOk xs with
    | false => rfl
    | true => exact absurd (by simpa [kernOk] using hh) h
  exact ⟨e, by simp [kernI, e]⟩
theorem kern_t {xs : List Int} (h : 2 ≤ xs.length ∧ sunB xs = true) : kernOk xs = true ∧ kernI xs = core xs := by
  have e : kernOk xs = true := by simpa [kernOk] using h
  exact ⟨e, by simp [kernI, e]⟩

theorem and_half {a b : Nat} : (a &&& b) / 2 = (a / 2) &&& (b / 2) := by
  have := Nat.shiftRight_and_distrib (a := a) (b := b) (i := 1)
  simpa [Nat.shiftRight_succ] using this
theorem xor_half {a b : Nat} : (a ^^^ b) / 2 = (a / 2) ^^^ (b / 2) := by
  have := Nat.shiftRight_xor_distrib (a := a) (b := b) (i := 1)
  simpa [Nat.shiftRight_succ] using this
theorem or_half {a b : Nat} : (a ||| b) / 2 = (a / 2) ||| (b / 2) := by
  have := Nat.shiftRight_or_distrib (a := a) (b := b) (i := 1)
  simpa [Nat.shiftRight_succ] using this
theorem and_mod {a b : Nat} : (a &&& b) % 2 = (a % 2) * (b % 2) := by
  have h := Nat.and_mod_two_pow (a := a) (b := b) (n := 1)
  simp only [Nat.pow_one] at h
  rw [h]
  rcases Nat.mod_two_eq_zero_or_one a with h1 | h1 <;> rcases Nat.mod_two_eq_zero_or_one b with h2 | h2 <;> rw [h1, h2] <;> rfl
theorem xor_mod {a b : Nat} : (a ^^^ b) % 2 = (a % 2 + b % 2) % 2 := by
  have h := Nat.xor_mod_two_pow (a := a) (b := b) (n := 1)
  simp only [Nat.pow_one] at h
  rw [h]
  rcases Nat.mod_two_eq_zero_or_one a with h1 | h1 <;> rcases Nat.mod_two_eq_zero_or_one b with h2 | h2 <;> rw [h1, h2] <;> rfl
theorem popF_split : ∀ f a b, popF f (a ^^^ (a &&& b)) + popF f (a &&& b) = popF f a
  | 0, _, _ => rfl
  | f + 1, a, b => by
    have ih := popF_split f (a / 2) (b / 2)
    simp only [popF, xor_half, and_half, xor_mod, and_mod]
    rcases Nat.mod_two_eq_zero_or_one a with h1 | h1 <;> rcases Nat.mod_two_eq_zero_or_one b with h2 | h2 <;> rw [h1, h2] <;> simp <;> omega
theorem pop_split {a b : Nat} : pop (a ^^^ (a &&& b)) + pop (a &&& b) = pop a := popF_split _ _ _
/-- The difference of the numbers of elements in red and out of it. -/
def imbI (s red : Int) : Int := if 2 * popI (band .i64 s red) - popI s < 0 - (2 * popI (band .i64 s red) - popI s) then 0 - (2 * popI (band .i64 s red) - popI s) else 2 * popI (band .i64 s red) - popI s
theorem popI_le {s : Int} : 0 ≤ popI s ∧ popI s ≤ 64 := by unfold popI; have := @pop_le s.toNat; omega
theorem popI_split {s red : Int} (hs : 0 ≤ s ∧ s < 1024) (hr : 0 ≤ red ∧ red < 1024) : popI (bandn .i64 s red) + popI (band .i64 s red) = popI s ∧ (0 ≤ band .i64 s red ∧ band .i64 s red < 1024) ∧ 0 ≤ bandn .i64 s red ∧ bandn .i64 s red < 1024 := by
  obtain ⟨a, rfl⟩ := Int.eq_ofNat_of_zero_le hs.1
  obtain ⟨b, rfl⟩ := Int.eq_ofNat_of_zero_le hr.1
  rw [bandn_nat (by omega) (by omega), band_nat (by omega) (by omega)]
  have h := @pop_split a b
  have h1 : a &&& b < 1024 := Nat.lt_of_le_of_lt Nat.and_le_left (by omega)
  have h2 : a ^^^ (a &&& b) < 2 ^ 10 := Nat.xor_lt_two_pow (by omega) (by omega)
  simp only [popI, Int.toNat_natCast]
  omega
def imbOf (s red : Int) : Int := if (inB s 0 1023 && inB red 0 1023) = true then imbI s red else -1
theorem imbOf_t {s red : Int} (h1 : inB s 0 1023 = true) (h2 : inB red 0 1023 = true) : imbOf s red = imbI s red := by simp [imbOf, h1, h2]
theorem imbOf_f {s red : Int} (h : inB s 0 1023 = false ∨ inB red 0 1023 = false) : imbOf s red = -1 := by
  unfold imbOf; rcases h with h | h <;> rw [h] <;> simp
theorem imbI_eq {s red : Int} : imbI s red = if 2 * popI (band .i64 s red) - popI s < 0 - (2 * popI (band .i64 s red) - popI s) then 0 - (2 * popI (band .i64 s red) - popI s) else 2 * popI (band .i64 s red) - popI s := by unfold imbI; rfl

theorem sub_and : ∀ a b : Nat, (a ^^^ (a &&& b)) + (a &&& b) = a := by
  intro a
  induction a using Nat.strongRecOn with
  | _ a ih =>
    intro b
    by_cases h0 : a = 0
    · subst h0; simp
    · have h := ih (a / 2) (by omega) (b / 2)
      have e1 := @xor_half a (a &&& b)
      have e2 := @and_half a b
      have e3 := @xor_mod a (a &&& b)
      have e4 := @and_mod a b
      rw [e2] at e1
      rw [e4] at e3
      generalize a ^^^ (a &&& b) = x at *
      generalize a &&& b = y at *
      rw [← e1, ← e2] at h
      rcases Nat.mod_two_eq_zero_or_one a with h1 | h1 <;> rcases Nat.mod_two_eq_zero_or_one b with h2 | h2 <;> rw [h1, h2] at e3 e4 <;> simp at e3 e4 <;> omega
/-- The kernel lies in each set: to take it away is to subtract it. -/
theorem petal_sub {xs : List Int} {i : Nat} (h : kernOk xs = true) (hi : i < xs.length) : bandn .i64 (xs.getD i 0) (core xs) = xs.getD i 0 - core xs ∧ 0 ≤ xs.getD i 0 ∧ xs.getD i 0 ≤ 63 ∧ 0 ≤ core xs ∧ core xs ≤ 63 := by
  simp only [kernOk, sunB, sunV, sunC, Bool.and_eq_true, decide_eq_true_eq, allN_iff, coreAt_iff] at h
  obtain ⟨h2, ⟨h64, hv⟩, hc⟩ := h
  have hb : ∀ k, k < xs.length → 0 ≤ xs.getD k 0 ∧ xs.getD k 0 ≤ 63 := fun k hk => by
    have := (hv k hk).1
    rw [inS, inB_t] at this
    have hf := full_bd6 (n := 6) (by omega)
    omega
  have hsub : ∃ c, core xs = band .i64 (xs.getD i 0) c ∧ 0 ≤ c ∧ c ≤ 63 := by
    by_cases h0 : i = 0
    · subst h0; exact ⟨xs.getD 1 0, rfl, hb 1 (by omega)⟩
    · exact ⟨xs.getD 0 0, (hc i hi 0 (by omega)).symm, hb 0 (by omega)⟩
  obtain ⟨c, hcc, hc0⟩ := hsub
  have hx := hb i hi
  rw [hcc]
  generalize xs.getD i 0 = x at *
  obtain ⟨a, rfl⟩ := Int.eq_ofNat_of_zero_le hx.1
  obtain ⟨b, rfl⟩ := Int.eq_ofNat_of_zero_le hc0.1
  rw [band_nat (by omega) (by omega), bandn_nat (by omega) (Nat.lt_of_le_of_lt Nat.and_le_left (by omega))]
  have e : a &&& (a &&& b) = a &&& b := by rw [← Nat.and_assoc, Nat.and_self]
  rw [e]
  have := sub_and a b
  have hle : a &&& b ≤ a := Nat.and_le_left
  omega
def petL (xs : List Int) : List Int := if kernOk xs = true then xs.map fun x => x - core xs else []
theorem petL_f {xs : List Int} (h : kernOk xs = false) : petL xs = [] := by simp [petL, h]
theorem petL_t {xs : List Int} (h : kernOk xs = true) : petL xs = xs.map fun x => x - core xs := by simp [petL, h]
theorem map_take_succ {xs : List Int} {i : Nat} {f : Int → Int} (h : i < xs.length) : (xs.take (i + 1)).map f = (xs.take i).map f ++ [f (xs.getD i 0)] := by
  rw [take_succ_getD h, List.map_append]; rfl

def sumG (g : Int → Nat) (l : List Int) : Nat := (l.map g).sum
theorem sumG_nil {g : Int → Nat} : sumG g [] = 0 := rfl
theorem sumG_snoc {g : Int → Nat} {l : List Int} {x : Int} : sumG g (l ++ [x]) = sumG g l + g x := by simp [sumG]
theorem sumG_succ {g : Int → Nat} {l : List Int} {i : Nat} (h : i < l.length) : sumG g (l.take (i + 1)) = sumG g (l.take i) + g (l.getD i 0) := by rw [take_succ_getD h, sumG_snoc]
theorem sumG_le {g : Int → Nat} {M : Nat} (hg : ∀ x, g x ≤ M) : ∀ l : List Int, sumG g l ≤ l.length * M
  | [] => by simp [sumG]
  | x :: r => by
    have h1 := sumG_le hg r
    have h2 := hg x
    have e : sumG g (x :: r) = g x + sumG g r := by simp [sumG]
    rw [e, List.length_cons, Nat.add_mul]
    omega
theorem sumG_take {g : Int → Nat} {l : List Int} {i : Nat} : sumG g (l.take i) ≤ sumG g l := by
  have : sumG g (l.take i ++ l.drop i) = sumG g (l.take i) + sumG g (l.drop i) := by simp only [sumG, List.map_append, List.sum_append_nat]
  rw [List.take_append_drop] at this
  omega
/-- The elements of s that are not used. -/
def freeF (s : Int) (u : Nat) : Nat := s.toNat ^^^ (s.toNat &&& u)
theorem freeF_le {s : Int} {u : Nat} : freeF s u ≤ s.toNat := by
  have := sub_and s.toNat u
  unfold freeF; omega
theorem bitAnd {s u e : Nat} : ((s ^^^ (s &&& u)) / 2 ^ e % 2 = 1) ↔ (s / 2 ^ e % 2 = 1 ∧ u / 2 ^ e % 2 = 0) := by
  have h1 := Nat.testBit_eq_decide_div_mod_eq (x := s ^^^ (s &&& u)) (i := e)
  have h2 := Nat.testBit_eq_decide_div_mod_eq (x := s) (i := e)
  have h3 := Nat.testBit_eq_decide_div_mod_eq (x := u) (i := e)
  rw [Nat.testBit_xor, Nat.testBit_and, h2, h3] at h1
  have h4 := Nat.mod_two_eq_zero_or_one (u / 2 ^ e)
  by_cases a : s / 2 ^ e % 2 = 1 <;> by_cases b : u / 2 ^ e % 2 = 1 <;> simp [a, b] at h1 ⊢ <;> omega
/-- The number of ways to choose different elements. -/
def cntF : List Int → Nat → Nat
  | [], _ => 1
  | s :: r, u => ((elemsF (freeF s u) 62).map fun e => cntF r (u ||| 2 ^ e.toNat)).sum
theorem cntF_cons {s : Int} {r : List Int} {u : Nat} : cntF (s :: r) u = sumG (fun e => cntF r (u ||| 2 ^ e.toNat)) (elemsF (freeF s u) 62) := rfl
theorem cntF_le : ∀ {l : List Int} {u : Nat}, cntF l u ≤ 62 ^ l.length
  | [], _ => by simp [cntF]
  | s :: r, u => by
    have h1 := sumG_le (g := fun e => cntF r (u ||| 2 ^ e.toNat)) (M := 62 ^ r.length) (fun x => cntF_le (l := r)) (elemsF (freeF s u) 62)
    have h2 := elemsF_len (s := freeF s u) (n := 62)
    have h3 : (elemsF (freeF s u) 62).length * 62 ^ r.length ≤ 62 * 62 ^ r.length := Nat.mul_le_mul_right _ h2
    rw [cntF_cons, List.length_cons, Nat.pow_succ]
    omega
theorem cntF_bd {l : List Int} {u : Nat} (h : l.length ≤ 6) : cntF l u ≤ 2 ^ 36 := by
  have h1 := cntF_le (l := l) (u := u)
  have h2 : (62 : Nat) ^ l.length ≤ 62 ^ 6 := Nat.pow_le_pow_right (by omega) h
  have h3 : (62 : Nat) ^ 6 ≤ 2 ^ 36 := by decide
  omega
theorem drop_getD {l : List Int} {i : Nat} (h : i < l.length) : l.drop i = l.getD i 0 :: l.drop (i + 1) := by
  rw [List.drop_eq_getElem_cons h]; congr 1
  rw [List.getD_eq_getElem?_getD, List.getElem?_eq_getElem h]; rfl
theorem elemsF_mem {s : Nat} : ∀ {n : Nat} {x : Int}, x ∈ elemsF s n → 0 ≤ x ∧ x < n ∧ s / 2 ^ x.toNat % 2 = 1
  | 0, x, h => by simp [elemsF] at h
  | n + 1, x, h => by
    simp only [elemsF] at h
    split at h
    · rename_i hb
      rw [List.mem_append] at h
      rcases h with h | h
      · have := elemsF_mem h; omega
      · simp only [List.mem_singleton] at h
        subst h
        exact ⟨by omega, by omega, by simpa using hb⟩
    · have := elemsF_mem h; omega
theorem elems6 {s : Nat} (h : s < 64) : elemsF s 62 = elemsF s 6 := by
  have := elemsF_stop (s := s) (i := 6) (Nat.div_eq_of_lt (by omega)) 56
  exact this
theorem elemsN {s n : Nat} (h : s < 2 ^ n) (hn : n ≤ 62) : elemsF s 62 = elemsF s n := by
  have := elemsF_stop (s := s) (i := n) (Nat.div_eq_of_lt h) (62 - n)
  rwa [show n + (62 - n) = 62 by omega] at this
theorem getD_mem0 {l : List Int} {i : Nat} (h : i < l.length) : l.getD i 0 ∈ l := by
  rw [List.getD_eq_getElem?_getD, List.getElem?_eq_getElem h]; exact List.getElem_mem h
theorem or_lt64 {u e : Nat} (h : u < 64) (he : e < 6) : u ||| 2 ^ e < 64 := by
  have h1 : (2 : Nat) ^ e ≤ 2 ^ 5 := Nat.pow_le_pow_right (by omega) (by omega)
  exact Nat.or_lt_two_pow (n := 6) h (by omega)
/-- The answer: the number of ways, -1 if the sets are none. -/
def cntI (n : Int) (l : List Int) : Int := if fewB n l = true then (cntF l 0 : Int) else -1
theorem orBit_nat {u : Nat} {e : Int} (hu : u < 64) (he : 0 ≤ e ∧ e < 6) : bor .i64 (u : Int) (1 * 2 ^ e.toNat) = ((u ||| 2 ^ e.toNat : Nat) : Int) := by
  have h1 : (2 : Nat) ^ e.toNat ≤ 2 ^ 5 := Nat.pow_le_pow_right (by omega) (by omega)
  have e1 : (1 : Int) * 2 ^ e.toNat = ((2 ^ e.toNat : Nat) : Int) := by simp
  rw [e1, bor_nat (by omega) (by omega)]

theorem toNat_succ {i : Nat} : ((i : Int) + 1).toNat = i + 1 := by omega
/-- The longer of two, the first if they are as long. -/
def comb (b x : List Int) : List Int := if b.length < x.length then x else b
theorem comb_assoc {b c x : List Int} : comb (comb b c) x = comb b (comb c x) := by
  unfold comb; (repeat' split) <;> first | rfl | omega
theorem comb_len {b x : List Int} : (comb b x).length = max b.length x.length := by unfold comb; split <;> omega
/-- The program's search: the best list so far goes along. -/
def vis (fits : List Int → Int → Bool) : List Int → List Int → List Int → List Int
  | [], _, b => b
  | s :: r, l, b => if l.length + (r.length + 1) ≤ b.length then b else if fits l s = true then vis fits r l (vis fits r (l ++ [s]) (comb b (l ++ [s]))) else vis fits r l b
/-- The reference's search. -/
def grw (fits : List Int → Int → Bool) : List Int → List Int → List Int → List Int
  | [], _, b => b
  | s :: r, l, b => if l.length + (r.length + 1) ≤ b.length then b else if fits l s = true then grw fits r l (comb b (grw fits r (l ++ [s]) (l ++ [s]))) else grw fits r l b
theorem grw_len {fits : List Int → Int → Bool} : ∀ {r l b : List Int}, b.length ≤ (grw fits r l b).length ∧ (grw fits r l b).length ≤ max b.length (l.length + r.length)
  | [], l, b => by simp only [grw]; omega
  | s :: r, l, b => by
    have h1 := grw_len (fits := fits) (r := r) (l := l ++ [s]) (b := l ++ [s])
    simp only [List.length_append, List.length_singleton] at h1
    have h2 := grw_len (fits := fits) (r := r) (l := l) (b := comb b (grw fits r (l ++ [s]) (l ++ [s])))
    rw [comb_len] at h2
    have h3 := grw_len (fits := fits) (r := r) (l := l) (b := b)
    simp only [grw, List.length_cons]
    split
    · omega
    · split <;> omega
theorem vis_grw {fits : List Int → Int → Bool} : ∀ {r l b c : List Int}, vis fits r l (comb b c) = comb b (grw fits r l c)
  | [], l, b, c => rfl
  | s :: r, l, b, c => by
    have hlen := grw_len (fits := fits) (r := s :: r) (l := l) (b := c)
    simp only [List.length_cons] at hlen
    simp only [vis]
    split
    · rename_i hp
      rw [comb_len] at hp
      by_cases hc : b.length < c.length
      · have e1 : grw fits (s :: r) l c = c := by simp only [grw]; rw [if_pos (by omega)]
        rw [e1]
      · have e1 : comb b c = b := by rw [comb, if_neg hc]
        rw [e1, comb, if_neg (by omega)]
    · rename_i hp
      rw [comb_len] at hp
      simp only [grw]
      rw [if_neg (show ¬ l.length + (r.length + 1) ≤ c.length by omega)]
      split
      · rw [vis_grw, comb_assoc, vis_grw]
      · rw [vis_grw]
theorem vis_len {fits : List Int → Int → Bool} : ∀ {r l b : List Int}, b.length ≤ (vis fits r l b).length ∧ (vis fits r l b).length ≤ max b.length (l.length + r.length)
  | [], l, b => by simp only [vis]; omega
  | s :: r, l, b => by
    have h1 := vis_len (fits := fits) (r := r) (l := l ++ [s]) (b := comb b (l ++ [s]))
    simp only [comb_len, List.length_append, List.length_singleton] at h1
    have h2 := vis_len (fits := fits) (r := r) (l := l) (b := vis fits r (l ++ [s]) (comb b (l ++ [s])))
    have h3 := vis_len (fits := fits) (r := r) (l := l) (b := b)
    simp only [vis, List.length_cons]
    split
    · omega
    · split <;> omega
theorem vis_top {fits : List Int → Int → Bool} {r : List Int} : vis fits r [] (comb [] []) = grw fits r [] [] := by
  rw [vis_grw, comb]
  split
  · rfl
  · rename_i h
    have : (grw fits r [] []).length = 0 := by simp only [List.length_nil] at h; omega
    exact (List.length_eq_zero_iff.1 this).symm
theorem drop_cons {l : List Int} {i : Nat} (h : i < l.length) : l.drop i = l.getD i 0 :: l.drop (i + 1) := by
  rw [getD_get h]; exact List.drop_eq_getElem_cons h
/-- The best so far: the list that was handed in, or one of the search's own. -/
def bestV (k : Nat) (e : TypeId) (l : List Int) : Option (List Int) → AV
  | none => .prm k (.ints .i64 l)
  | some b => .sl (some e) (.ints .i64 b)
def bestL (l : List Int) : Option (List Int) → List Int
  | none => l
  | some b => b
theorem bestV_none {k : Nat} {e : TypeId} {l : List Int} : bestV k e l none = .prm k (.ints .i64 l) := rfl
theorem bestV_some {k : Nat} {e : TypeId} {l b : List Int} : bestV k e l (some b) = .sl (some e) (.ints .i64 b) := rfl
theorem bestL_none {l : List Int} : bestL l none = l := rfl
theorem bestL_some {l b : List Int} : bestL l (some b) = b := rfl
theorem grw_same {fits : List Int → Int → Bool} : ∀ {r l b : List Int}, grw fits r l b = b ∨ b.length < (grw fits r l b).length
  | [], l, b => .inl rfl
  | s :: r, l, b => by
    simp only [grw]
    split
    · exact .inl rfl
    · split
      · have h := grw_same (fits := fits) (r := r) (l := l) (b := comb b (grw fits r (l ++ [s]) (l ++ [s])))
        have h2 := grw_len (fits := fits) (r := r) (l := l) (b := comb b (grw fits r (l ++ [s]) (l ++ [s])))
        by_cases hc : b.length < (grw fits r (l ++ [s]) (l ++ [s])).length
        · right
          rw [comb_len] at h2
          omega
        · have e : comb b (grw fits r (l ++ [s]) (l ++ [s])) = b := by rw [comb, if_neg hc]
          rw [e] at h ⊢
          exact h
      · exact grw_same
theorem grw_eq {fits : List Int → Int → Bool} {r l b : List Int} (h : (grw fits r l b).length = b.length) : grw fits r l b = b := by
  rcases grw_same (fits := fits) (r := r) (l := l) (b := b) with h' | h'
  · exact h'
  · omega
theorem grw_next {fits : List Int → Int → Bool} {all l b : List Int} {i : Nat} (hi : i < all.length) (hp : ¬ l.length + all.length - i ≤ b.length) :
    grw fits (all.drop i) l b = if fits l (all.getD i 0) = true then grw fits (all.drop (i + 1)) l (comb b (grw fits (all.drop (i + 1)) (l ++ [all.getD i 0]) (l ++ [all.getD i 0]))) else grw fits (all.drop (i + 1)) l b := by
  rw [drop_cons hi, grw, if_neg (by simp only [List.length_drop]; omega)]
theorem grw_stop {fits : List Int → Int → Bool} {all l b : List Int} {i : Nat} (hp : ¬ i < all.length ∨ l.length + all.length - i ≤ b.length) : grw fits (all.drop i) l b = b := by
  by_cases hi : i < all.length
  · rw [drop_cons hi, grw, if_pos (by simp only [List.length_drop]; omega)]
  · rw [List.drop_of_length_le (by omega), grw]

/-- The first that comes out of a list. -/
def fsO (g : Int → Option (List Int)) : List Int → Option (List Int)
  | [] => none
  | e :: r => match g e with | some x => some x | none => fsO g r
theorem fsO_append {g : Int → Option (List Int)} : ∀ {a b : List Int}, fsO g (a ++ b) = match fsO g a with | some x => some x | none => fsO g b
  | [], b => rfl
  | e :: r, b => by
    simp only [List.cons_append, fsO]
    cases g e with
    | some x => rfl
    | none => exact fsO_append
theorem fsO_on {g : Int → Option (List Int)} {a : List Int} {e : Int} (h : fsO g a = none) (he : g e = none) : fsO g (a ++ [e]) = none := by
  rw [fsO_append, h]; simp [fsO, he]
theorem fsO_here {g : Int → Option (List Int)} {a b : List Int} {e : Int} {x : List Int} (h : fsO g a = none) (he : g e = some x) : fsO g (a ++ e :: b) = some x := by
  rw [fsO_append, h]; simp [fsO, he]
theorem fsO_congr {g h : Int → Option (List Int)} : ∀ {a : List Int}, (∀ e, e ∈ a → g e = h e) → fsO g a = fsO h a
  | [], _ => rfl
  | e :: r, hh => by
    simp only [fsO]
    rw [hh e (by simp), fsO_congr fun y hy => hh y (by simp [hy])]
/-- The first list of different elements of the sets that goes on from x. -/
def repO : List Int → Nat → List Int → Option (List Int)
  | [], _, x => some x
  | s :: r, u, x => fsO (fun e => repO r (u ||| 2 ^ e.toNat) (x ++ [e])) (elemsF (freeF s u) 62)
theorem repO_cons {s : Int} {r : List Int} {u : Nat} {x : List Int} : repO (s :: r) u x = fsO (fun e => repO r (u ||| 2 ^ e.toNat) (x ++ [e])) (elemsF (freeF s u) 62) := rfl
theorem fsO_some {g : Int → Option (List Int)} {x : List Int} : ∀ {a : List Int}, fsO g a = some x → ∃ e, e ∈ a ∧ g e = some x
  | [], h => by simp [fsO] at h
  | e :: r, h => by
    simp only [fsO] at h
    split at h
    · rename_i y hy; cases h; exact ⟨e, by simp, hy⟩
    · obtain ⟨e', he, h'⟩ := fsO_some h
      exact ⟨e', by simp [he], h'⟩
theorem repO_len : ∀ {l : List Int} {u : Nat} {x y : List Int}, repO l u x = some y → y.length = x.length + l.length
  | [], u, x, y, h => by simp only [repO, Option.some.injEq] at h; subst h; rfl
  | s :: r, u, x, y, h => by
    rw [repO_cons] at h
    obtain ⟨e, _, he⟩ := fsO_some h
    have := repO_len he
    simp only [List.length_append, List.length_nil, List.length_cons] at this ⊢
    omega
def opL : Option (List Int) → List Int
  | some x => x
  | none => []
def opB : Option (List Int) → Bool
  | some _ => true
  | none => false
def rpO (n : Int) (l : List Int) : Option (List Int) := if fewB n l = true then repO l 0 [] else none
theorem rpL_len {n : Int} {l : List Int} : (opL (rpO n l)).length ≤ l.length := by
  unfold rpO; split
  · cases hx : repO l 0 [] with
    | none => simp [opL]
    | some y => have := repO_len hx; simp only [List.length_nil] at this; simp only [opL]; omega
  · simp [opL]
theorem split_at {L : List Int} {j : Nat} (h : j < L.length) : L = L.take j ++ L.getD j 0 :: L.drop (j + 1) := by
  rw [getD_get h, ← List.drop_eq_getElem_cons h, List.take_append_drop]
theorem elemsF_pre {s i : Nat} : ∀ k, ∃ b, elemsF s (i + k) = elemsF s i ++ b
  | 0 => ⟨[], by simp⟩
  | k + 1 => by
    obtain ⟨b, hb⟩ := elemsF_pre (s := s) (i := i) k
    rw [← Nat.add_assoc]
    simp only [elemsF]
    split
    · exact ⟨b ++ [((i + k : Nat) : Int)], by rw [hb, List.append_assoc]⟩
    · exact ⟨b, hb⟩
theorem fsO_found {g : Int → Option (List Int)} {s N e : Nat} {y : List Int} (he : e + 1 ≤ N) (hs : elemsF s (e + 1) = elemsF s e ++ [(e : Int)]) (hno : fsO g (elemsF s e) = none) (hy : g (e : Int) = some y) : fsO g (elemsF s N) = some y := by
  obtain ⟨b, hb⟩ := elemsF_pre (s := s) (i := e + 1) (N - (e + 1))
  rw [show e + 1 + (N - (e + 1)) = N by omega, hs, List.append_assoc] at hb
  rw [hb]
  exact fsO_here hno hy

/-- n numbers from k on. -/
def iotaI (k : Int) (n : Nat) : List Int := (List.range n).map fun (i : Nat) => k + (i : Int)
theorem iotaI_len {k : Int} {n : Nat} : (iotaI k n).length = n := by simp [iotaI]
theorem iotaI_get {k : Int} {n i : Nat} (h : i < n) : (iotaI k n).getD i 0 = k + i := by
  rw [List.getD_eq_getElem?_getD, iotaI, List.getElem?_map, List.getElem?_range h]; rfl
theorem iotaI_succ {k : Int} {n : Nat} : iotaI k (n + 1) = iotaI k n ++ [k + n] := by
  simp [iotaI, List.range_succ]
theorem mark_step {xs : List Int} {k : Int} {i : Nat} (h : i < xs.length) : (iotaI k i ++ xs.drop i).set i (k + i) = iotaI k (i + 1) ++ xs.drop (i + 1) := by
  rw [List.set_append_right _ _ (by rw [iotaI_len]; exact Nat.le_refl _), iotaI_len, Nat.sub_self, List.drop_eq_getElem_cons h, List.set_cons_zero, iotaI_succ, List.append_assoc]; rfl
/-- What is read back: the next number, if they are all there. -/
def heldI (xs : List Int) (k : Int) : Int := if xs = iotaI k xs.length then k + xs.length else -1
theorem heldI_f {xs : List Int} {k : Int} {i : Nat} (hi : i < xs.length) (h : ¬ xs.getD i 0 = k + i) : heldI xs k = -1 := by
  rw [heldI, if_neg]
  intro e
  have := iotaI_get (k := k) (n := xs.length) hi
  rw [← e] at this
  exact h this
theorem heldI_t {xs : List Int} {k : Int} (h : ∀ i, i < xs.length → xs.getD i 0 = k + i) : heldI xs k = k + xs.length := by
  rw [heldI, if_pos]
  exact eq_of_get iotaI_len.symm fun i hi => by rw [h i hi, iotaI_get hi]
theorem heldI_iota {k : Int} {n : Nat} : heldI (iotaI k n) k = k + n := by rw [heldI, iotaI_len, if_pos rfl]

theorem is_laws_toIntS : FnIs Try.prog 11 22 [.tmp 2] (Try.f11.body.getD .skip) := ⟨⟨Try.f11, by kernel_rfl, by kernel_rfl, by kernel_rfl, by kernel_rfl⟩, by kernel_rfl, by kernel_rfl⟩
def G_laws_toIntS : Gm := Gm.none
theorem G_laws_toIntS_ok : G_laws_toIntS.ok Try.prog := Gm.none_ok
set_option maxHeartbeats 1000000 in
set_option maxRecDepth 100000 in
theorem runs_laws_toIntS (xs : List Int) (hp1 : xs.length ≤ 1099511627776) : ARuns Try.prog 11 [.sl none (.ints .i64 xs)] [] (.ref 0 xs.length) [.row 3 (.ints .i64 xs)] := by
  refine ARuns_bc G_laws_toIntS_ok is_laws_toIntS (by simp) fun hl hlB => ?_
  simp only [kcode_at, kreg_at, bc_skip, bc_seq, bc_cond, bc_block, bc_exit, bc_ret, bc_region, lkX_cons, acond_tmp, aCase_t, aCase_f, aCase_b, afin_nil, cvE_some, resL, resV, resC, cv, cvL, pack, entryE, inPrm, Option.getD_some, acall_clo, add_sp, add_lend, kcall_nil, selOf, selC, selA, inArgs, inA, inL, okA, okL, okBx, okC, outA, outL, outU, outB, deep, deepL, boxIds, AV.bid, List.map_nil, List.map_cons, List.all_nil, List.all_cons, BEq.rfl, Bool.and_true, Bool.true_and, List.append_nil, aops_nil, aops_plain, aops_guard, kont_at, yes_at, no_at, aop_move, aop_assign, aop_pick, aop_alloc, aop_box, aop_build, aop_buildSlice, aop_load, aop_store, aop_nilCheck, aop_binOp, aop_unOp, aop_convert, aop_fieldAddr, aop_indexAddr, aop_slice, aop_extract, aop_makeSlice, aop_len, aop_max, aMax_int, slTy2, SC0, aop_append, aop_call, evalE, getE, putE, getB, setB, St.put, setsB, nth, AV.ofV, AV.blk, AV.bid, AV.one, SC.len, SC.get, List.length_nil, List.length_cons, Nat.reduceEqDiff, Nat.reduceAdd, ↓reduceIte, true_and, and_true, Bool.true_eq_false, Bool.false_eq_true, false_imp_iff, true_imp_iff, decide_eq_true_eq, Bool.not_eq_true', Bool.not_eq_false', decide_eq_false_iff_not, Option.isSome, List.nil_append, List.cons_append, aGuardO_some, aGuard_tt, aGuard_tf, aGuard_ft, aGuard_ff, aGuard_tb, aGuard_fb, aGuard_ts, aGuard_fs, aPick_b, aPick_t, aPick_f, aAlloc_one, aAlloc_flat, aBox_some, aBuild_flat, aInt_add, aBin_add, aInt_sub, aBin_sub, aInt_mul, aBin_mul, aInt_quo, aBin_quo, aInt_rem, aBin_rem, aInt_and, aBin_and, aInt_or, aBin_or, aInt_xor, aBin_xor, aInt_andNot, aBin_andNot, aInt_eql, aBin_eql, aInt_neq, aBin_neq, aInt_lss, aBin_lss, aInt_leq, aBin_leq, aInt_gtr, aBin_gtr, aInt_geq, aBin_geq, aBin_shl, aBin_shr, aShift_shl, aShift_shr, aBin_be1, aBin_bn1, aBin_be2, aBin_bn2, aBin_be3, aBin_bn3, aBin_be4, aBin_bn4, aBin_be5, aBin_bn5, aBin_be6, aBin_bn6, aBin_be7, aBin_bn7, aBin_be8, aBin_bn8, aBin_be9, aBin_bn9, aUn_b, aUn_t, aUn_f, aUn_i, aNil_ptr, aNil_pv, aConv_int, aField_ptr, aField_pv, aIdx_sl, aIdx_prm, aIdx_row, aIdx_drow, aMake_i, aMake_s, aExtr_tup, aLen_ref, aLen_nil, aLen_sl, aLen_prm, aLen_str, aBuildL_some, aBuildS_some, aLoad_1b, aLoad_1d, aLoad_fb, aLoad_fd, aLoad_1p, aLoad_fp, aLoad_ep, aLoad_rr, aLoad_rd, aStore_1, aStore_f, aStore_r, aApp_some, aAppend_nil, aAppend_ref, aSlice_h, aSlice_l, aSlice_lh, aop_slice3, aSlice3_r, aop_field, aFld_agg, aBinW_f, aBinW_t, aWrap_mul, aWrap_add, isW_tmp, isW_mulc, isW_addc, isW_sub, isW_quo, isW_rem, isW_and, isW_or, isW_xor, isW_andNot, isW_shl, isW_shr, isW_eql, isW_neq, isW_lss, isW_leq, isW_gtr, isW_geq, Int.reduceLT, aBinW_dF, aBinW_dT, bc_draw, kregD_at, aopsD_nil, aopsD_plain, aopsD_guard, kontD_at, contD_at, yesD_at, noD_at, splD_bool, splD_undef, splD_skip, splD_int, splD_tt, splD_ff, splD_str, splD_nil, splD_sl, splD_prm, splD_ref, splD_ptr, splD_rp, splD_ep, splD_pv, splD_agg, splD_tup, splD_clo, gD_tt, gD_tf, gD_ft, gD_ff, gD_ts, gD_fs, slotO_some, addTr_nil, addTr_cons, memQ_nil, memQ_cons, clash_nil, clash_cons, regC_none, regC_nil, regC_cons, regR_nil, regR_cons, Int.toNat_zero, Int.toNat_one, rng0, rng1, rng2, rng3, rng4, SC.take, SC.drop, mp_nil, acond_ct, acond_cf, mp_one0, mp_one1, mp_one2, mp_one3, kcall_one, liveB_row, liveB_box, idx, cont, still, dies, lend, lendA, lendDies, snocs, SC.snoc, SC.app, meet, AV.cells, fillA, List.getD_cons_zero, List.getD_cons_succ, List.set_cons_zero, List.set_cons_succ, List.length_singleton, Nat.le_refl, Nat.lt_irrefl, Nat.reduceLT, Nat.reduceLeDiff, Option.map_some, Option.map_none, List.flatMap_nil, List.flatMap_cons, Nat.zero_add, BEq.rfl, kcall_two, mp_two0, mp_two1, mp_two2, mp_two3, mp_two4, aop_makeFunc, plainA, Bool.true_and, sl3, ty3, un3, sl49, ty49, un49, sl71, ty71, un71, sl69, ty69, un69, sl5, ty5, un5, sl2, ty2, un2, sl21, ty21, un21, sl4, ty4, un4, sl9, un9, sl22, ty22, un22, sl31, ty31, un31, sl36, sl53, ty38, sl38, ty41, sl41, inR64, inRu64, inRu32, Try.f11]
  refine ⟨⟨by omega, by omega, by omega⟩, ?_⟩
  refine bc_loop (fun i : Nat => i ≤ xs.length)
    (fun i => ⟨[(0, .prm 0 (.ints .i64 xs)), (3, .ref 0 xs.length), (4, .int .i64 i)], [.row 3 (.ints .i64 (xs.take i ++ List.replicate (xs.length - i) 0))]⟩) (fun i => xs.length - i)
    [0, 3, 4] [0] 0 rfl (by simp [St.conv, St.bf, getE, putE, getB, cv, cvL, cvB, idx, still, pack, lifts, liftOne, cellsOfB, setB]) (by simp) fun i h1 => ?_
  simp only [kcode_at, kreg_at, bc_skip, bc_seq, bc_cond, bc_block, bc_exit, bc_ret, bc_region, lkX_cons, acond_tmp, aCase_t, aCase_f, aCase_b, afin_nil, cvE_some, resL, resV, resC, cv, cvL, pack, entryE, inPrm, Option.getD_some, acall_clo, add_sp, add_lend, kcall_nil, selOf, selC, selA, inArgs, inA, inL, okA, okL, okBx, okC, outA, outL, outU, outB, deep, deepL, boxIds, AV.bid, List.map_nil, List.map_cons, List.all_nil, List.all_cons, BEq.rfl, Bool.and_true, Bool.true_and, List.append_nil, aops_nil, aops_plain, aops_guard, kont_at, yes_at, no_at, aop_move, aop_assign, aop_pick, aop_alloc, aop_box, aop_build, aop_buildSlice, aop_load, aop_store, aop_nilCheck, aop_binOp, aop_unOp, aop_convert, aop_fieldAddr, aop_indexAddr, aop_slice, aop_extract, aop_makeSlice, aop_len, aop_max, aMax_int, slTy2, SC0, aop_append, aop_call, evalE, getE, putE, getB, setB, St.put, setsB, nth, AV.ofV, AV.blk, AV.bid, AV.one, SC.len, SC.get, List.length_nil, List.length_cons, Nat.reduceEqDiff, Nat.reduceAdd, ↓reduceIte, true_and, and_true, Bool.true_eq_false, Bool.false_eq_true, false_imp_iff, true_imp_iff, decide_eq_true_eq, Bool.not_eq_true', Bool.not_eq_false', decide_eq_false_iff_not, Option.isSome, List.nil_append, List.cons_append, aGuardO_some, aGuard_tt, aGuard_tf, aGuard_ft, aGuard_ff, aGuard_tb, aGuard_fb, aGuard_ts, aGuard_fs, aPick_b, aPick_t, aPick_f, aAlloc_one, aAlloc_flat, aBox_some, aBuild_flat, aInt_add, aBin_add, aInt_sub, aBin_sub, aInt_mul, aBin_mul, aInt_quo, aBin_quo, aInt_rem, aBin_rem, aInt_and, aBin_and, aInt_or, aBin_or, aInt_xor, aBin_xor, aInt_andNot, aBin_andNot, aInt_eql, aBin_eql, aInt_neq, aBin_neq, aInt_lss, aBin_lss, aInt_leq, aBin_leq, aInt_gtr, aBin_gtr, aInt_geq, aBin_geq, aBin_shl, aBin_shr, aShift_shl, aShift_shr, aBin_be1, aBin_bn1, aBin_be2, aBin_bn2, aBin_be3, aBin_bn3, aBin_be4, aBin_bn4, aBin_be5, aBin_bn5, aBin_be6, aBin_bn6, aBin_be7, aBin_bn7, aBin_be8, aBin_bn8, aBin_be9, aBin_bn9, aUn_b, aUn_t, aUn_f, aUn_i, aNil_ptr, aNil_pv, aConv_int, aField_ptr, aField_pv, aIdx_sl, aIdx_prm, aIdx_row, aIdx_drow, aMake_i, aMake_s, aExtr_tup, aLen_ref, aLen_nil, aLen_sl, aLen_prm, aLen_str, aBuildL_some, aBuildS_some, aLoad_1b, aLoad_1d, aLoad_fb, aLoad_fd, aLoad_1p, aLoad_fp, aLoad_ep, aLoad_rr, aLoad_rd, aStore_1, aStore_f, aStore_r, aApp_some, aAppend_nil, aAppend_ref, aSlice_h, aSlice_l, aSlice_lh, aop_slice3, aSlice3_r, aop_field, aFld_agg, aBinW_f, aBinW_t, aWrap_mul, aWrap_add, isW_tmp, isW_mulc, isW_addc, isW_sub, isW_quo, isW_rem, isW_and, isW_or, isW_xor, isW_andNot, isW_shl, isW_shr, isW_eql, isW_neq, isW_lss, isW_leq, isW_gtr, isW_geq, Int.reduceLT, aBinW_dF, aBinW_dT, bc_draw, kregD_at, aopsD_nil, aopsD_plain, aopsD_guard, kontD_at, contD_at, yesD_at, noD_at, splD_bool, splD_undef, splD_skip, splD_int, splD_tt, splD_ff, splD_str, splD_nil, splD_sl, splD_prm, splD_ref, splD_ptr, splD_rp, splD_ep, splD_pv, splD_agg, splD_tup, splD_clo, gD_tt, gD_tf, gD_ft, gD_ff, gD_ts, gD_fs, slotO_some, addTr_nil, addTr_cons, memQ_nil, memQ_cons, clash_nil, clash_cons, regC_none, regC_nil, regC_cons, regR_nil, regR_cons, Int.toNat_zero, Int.toNat_one, rng0, rng1, rng2, rng3, rng4, SC.take, SC.drop, mp_nil, acond_ct, acond_cf, mp_one0, mp_one1, mp_one2, mp_one3, kcall_one, liveB_row, liveB_box, idx, cont, still, dies, lend, lendA, lendDies, snocs, SC.snoc, SC.app, meet, AV.cells, fillA, List.getD_cons_zero, List.getD_cons_succ, List.set_cons_zero, List.set_cons_succ, List.length_singleton, Nat.le_refl, Nat.lt_irrefl, Nat.reduceLT, Nat.reduceLeDiff, Option.map_some, Option.map_none, List.flatMap_nil, List.flatMap_cons, Nat.zero_add, BEq.rfl, kcall_two, mp_two0, mp_two1, mp_two2, mp_two3, mp_two4, aop_makeFunc, plainA, Bool.true_and, sl3, ty3, un3, sl49, ty49, un49, sl71, ty71, un71, sl69, ty69, un69, sl5, ty5, un5, sl2, ty2, un2, sl21, ty21, un21, sl4, ty4, un4, sl9, un9, sl22, ty22, un22, sl31, ty31, un31, sl36, sl53, ty38, sl38, ty41, sl41, inR64, inRu64, inRu32]
  simp only [lensA, lenA, lenSC] at hl
  have e : (xs.take i ++ List.replicate (xs.length - i) (0 : Int)).length = xs.length := by simp; omega
  refine ⟨fun h => ⟨by omega, ⟨e, by omega, by omega⟩, ⟨e, by omega⟩, by omega, ?_⟩, fun h => ?_⟩
  · refine klp_of (i + 1) ?_ (by omega) (by omega)
    have := copy_step (xs := xs) (i := i) (by omega)
    simp [St.conv, St.bf, getE, putE, getB, cv, cvL, cvB, idx, still, pack, lifts, liftOne, cellsOfB, setB]
    simpa using this
  · have : i = xs.length := by omega
    subst this
    refine afin_of [0] rfl rfl (by simp [St.conv, St.bf, getE, putE, getB, cv, cvL, cvB, idx, still, pack, lifts, liftOne, cellsOfB, setB]) (by simp [St.conv, St.bf, getE, putE, getB, cv, cvL, cvB, idx, still, pack, lifts, liftOne, cellsOfB, setB])
def lend_laws_toIntS : List Nat := []
def sp_laws_toIntS : List AV → List Bx → (AV → List Bx → Prop) → Prop
  | [.sl none (.ints .i64 xs)], [], K => (xs.length ≤ 1099511627776) ∧ K (.ref 0 xs.length) [.row 3 (.ints .i64 xs)]
  | _, _, _ => False
theorem at_laws_toIntS {xs : List Int} {K : AV → List Bx → Prop} : sp_laws_toIntS [.sl none (.ints .i64 xs)] [] K = ((xs.length ≤ 1099511627776) ∧ K (.ref 0 xs.length) [.row 3 (.ints .i64 xs)]) := id rfl
theorem ok_laws_toIntS : ∀ args giv K, sp_laws_toIntS args giv K → ∃ r outs, ARuns Try.prog 11 args giv r outs ∧ K r outs := by
  intro args giv K hk
  unfold sp_laws_toIntS at hk
  split at hk
  · obtain ⟨hp1, hk⟩ := hk; exact ⟨_, _, runs_laws_toIntS _ hp1, hk⟩
  · exact hk.elim
theorem is_laws_eqIntS : FnIs Try.prog 13 26 [.tmp 4] (Try.f13.body.getD .skip) := ⟨⟨Try.f13, by kernel_rfl, by kernel_rfl, by kernel_rfl, by kernel_rfl⟩, by kernel_rfl, by kernel_rfl⟩
def G_laws_eqIntS : Gm := Gm.none
theorem G_laws_eqIntS_ok : G_laws_eqIntS.ok Try.prog := Gm.none_ok
set_option maxHeartbeats 1000000 in
set_option maxRecDepth 100000 in
theorem runs_laws_eqIntS (xs ys : List Int) : ARuns Try.prog 13 [.sl none (.ints .i64 xs), .sl none (.ints .i64 ys)] [] (.bool (decide (xs = ys))) [] := by
  refine ARuns_bc G_laws_eqIntS_ok is_laws_eqIntS (by simp) fun hl hlB => ?_
  simp only [kcode_at, kreg_at, bc_skip, bc_seq, bc_cond, bc_block, bc_exit, bc_ret, bc_region, lkX_cons, acond_tmp, aCase_t, aCase_f, aCase_b, afin_nil, cvE_some, resL, resV, resC, cv, cvL, pack, entryE, inPrm, Option.getD_some, acall_clo, add_sp, add_lend, kcall_nil, selOf, selC, selA, inArgs, inA, inL, okA, okL, okBx, okC, outA, outL, outU, outB, deep, deepL, boxIds, AV.bid, List.map_nil, List.map_cons, List.all_nil, List.all_cons, BEq.rfl, Bool.and_true, Bool.true_and, List.append_nil, aops_nil, aops_plain, aops_guard, kont_at, yes_at, no_at, aop_move, aop_assign, aop_pick, aop_alloc, aop_box, aop_build, aop_buildSlice, aop_load, aop_store, aop_nilCheck, aop_binOp, aop_unOp, aop_convert, aop_fieldAddr, aop_indexAddr, aop_slice, aop_extract, aop_makeSlice, aop_len, aop_max, aMax_int, slTy2, SC0, aop_append, aop_call, evalE, getE, putE, getB, setB, St.put, setsB, nth, AV.ofV, AV.blk, AV.bid, AV.one, SC.len, SC.get, List.length_nil, List.length_cons, Nat.reduceEqDiff, Nat.reduceAdd, ↓reduceIte, true_and, and_true, Bool.true_eq_false, Bool.false_eq_true, false_imp_iff, true_imp_iff, decide_eq_true_eq, Bool.not_eq_true', Bool.not_eq_false', decide_eq_false_iff_not, Option.isSome, List.nil_append, List.cons_append, aGuardO_some, aGuard_tt, aGuard_tf, aGuard_ft, aGuard_ff, aGuard_tb, aGuard_fb, aGuard_ts, aGuard_fs, aPick_b, aPick_t, aPick_f, aAlloc_one, aAlloc_flat, aBox_some, aBuild_flat, aInt_add, aBin_add, aInt_sub, aBin_sub, aInt_mul, aBin_mul, aInt_quo, aBin_quo, aInt_rem, aBin_rem, aInt_and, aBin_and, aInt_or, aBin_or, aInt_xor, aBin_xor, aInt_andNot, aBin_andNot, aInt_eql, aBin_eql, aInt_neq, aBin_neq, aInt_lss, aBin_lss, aInt_leq, aBin_leq, aInt_gtr, aBin_gtr, aInt_geq, aBin_geq, aBin_shl, aBin_shr, aShift_shl, aShift_shr, aBin_be1, aBin_bn1, aBin_be2, aBin_bn2, aBin_be3, aBin_bn3, aBin_be4, aBin_bn4, aBin_be5, aBin_bn5, aBin_be6, aBin_bn6, aBin_be7, aBin_bn7, aBin_be8, aBin_bn8, aBin_be9, aBin_bn9, aUn_b, aUn_t, aUn_f, aUn_i, aNil_ptr, aNil_pv, aConv_int, aField_ptr, aField_pv, aIdx_sl, aIdx_prm, aIdx_row, aIdx_drow, aMake_i, aMake_s, aExtr_tup, aLen_ref, aLen_nil, aLen_sl, aLen_prm, aLen_str, aBuildL_some, aBuildS_some, aLoad_1b, aLoad_1d, aLoad_fb, aLoad_fd, aLoad_1p, aLoad_fp, aLoad_ep, aLoad_rr, aLoad_rd, aStore_1, aStore_f, aStore_r, aApp_some, aAppend_nil, aAppend_ref, aSlice_h, aSlice_l, aSlice_lh, aop_slice3, aSlice3_r, aop_field, aFld_agg, aBinW_f, aBinW_t, aWrap_mul, aWrap_add, isW_tmp, isW_mulc, isW_addc, isW_sub, isW_quo, isW_rem, isW_and, isW_or, isW_xor, isW_andNot, isW_shl, isW_shr, isW_eql, isW_neq, isW_lss, isW_leq, isW_gtr, isW_geq, Int.reduceLT, aBinW_dF, aBinW_dT, bc_draw, kregD_at, aopsD_nil, aopsD_plain, aopsD_guard, kontD_at, contD_at, yesD_at, noD_at, splD_bool, splD_undef, splD_skip, splD_int, splD_tt, splD_ff, splD_str, splD_nil, splD_sl, splD_prm, splD_ref, splD_ptr, splD_rp, splD_ep, splD_pv, splD_agg, splD_tup, splD_clo, gD_tt, gD_tf, gD_ft, gD_ff, gD_ts, gD_fs, slotO_some, addTr_nil, addTr_cons, memQ_nil, memQ_cons, clash_nil, clash_cons, regC_none, regC_nil, regC_cons, regR_nil, regR_cons, Int.toNat_zero, Int.toNat_one, rng0, rng1, rng2, rng3, rng4, SC.take, SC.drop, mp_nil, acond_ct, acond_cf, mp_one0, mp_one1, mp_one2, mp_one3, kcall_one, liveB_row, liveB_box, idx, cont, still, dies, lend, lendA, lendDies, snocs, SC.snoc, SC.app, meet, AV.cells, fillA, List.getD_cons_zero, List.getD_cons_succ, List.set_cons_zero, List.set_cons_succ, List.length_singleton, Nat.le_refl, Nat.lt_irrefl, Nat.reduceLT, Nat.reduceLeDiff, Option.map_some, Option.map_none, List.flatMap_nil, List.flatMap_cons, Nat.zero_add, BEq.rfl, kcall_two, mp_two0, mp_two1, mp_two2, mp_two3, mp_two4, aop_makeFunc, plainA, Bool.true_and, sl3, ty3, un3, sl49, ty49, un49, sl71, ty71, un71, sl69, ty69, un69, sl5, ty5, un5, sl2, ty2, un2, sl21, ty21, un21, sl4, ty4, un4, sl9, un9, sl22, ty22, un22, sl31, ty31, un31, sl36, sl53, ty38, sl38, ty41, sl41, inR64, inRu64, inRu32, Try.f13]
  simp only [lensA, lenA, lenSC] at hl
  refine ⟨fun h => ?_, fun h => ?_⟩
  · congr 1; symm; simp; intro e; rw [e] at h; exact h rfl
  replace h : xs.length = ys.length := by omega
  refine bc_loop (fun i : Nat => i ≤ xs.length ∧ ∀ k, k < i → xs.getD k 0 = ys.getD k 0)
    (fun i => ⟨[(0, .prm 0 (.ints .i64 xs)), (1, .prm 1 (.ints .i64 ys)), (5, .int .i64 i)], []⟩) (fun i => xs.length - i)
    [0, 1, 5] [] 0 rfl rfl (by simp) fun i ⟨h1, h2⟩ => ?_
  simp only [kcode_at, kreg_at, bc_skip, bc_seq, bc_cond, bc_block, bc_exit, bc_ret, bc_region, lkX_cons, acond_tmp, aCase_t, aCase_f, aCase_b, afin_nil, cvE_some, resL, resV, resC, cv, cvL, pack, entryE, inPrm, Option.getD_some, acall_clo, add_sp, add_lend, kcall_nil, selOf, selC, selA, inArgs, inA, inL, okA, okL, okBx, okC, outA, outL, outU, outB, deep, deepL, boxIds, AV.bid, List.map_nil, List.map_cons, List.all_nil, List.all_cons, BEq.rfl, Bool.and_true, Bool.true_and, List.append_nil, aops_nil, aops_plain, aops_guard, kont_at, yes_at, no_at, aop_move, aop_assign, aop_pick, aop_alloc, aop_box, aop_build, aop_buildSlice, aop_load, aop_store, aop_nilCheck, aop_binOp, aop_unOp, aop_convert, aop_fieldAddr, aop_indexAddr, aop_slice, aop_extract, aop_makeSlice, aop_len, aop_max, aMax_int, slTy2, SC0, aop_append, aop_call, evalE, getE, putE, getB, setB, St.put, setsB, nth, AV.ofV, AV.blk, AV.bid, AV.one, SC.len, SC.get, List.length_nil, List.length_cons, Nat.reduceEqDiff, Nat.reduceAdd, ↓reduceIte, true_and, and_true, Bool.true_eq_false, Bool.false_eq_true, false_imp_iff, true_imp_iff, decide_eq_true_eq, Bool.not_eq_true', Bool.not_eq_false', decide_eq_false_iff_not, Option.isSome, List.nil_append, List.cons_append, aGuardO_some, aGuard_tt, aGuard_tf, aGuard_ft, aGuard_ff, aGuard_tb, aGuard_fb, aGuard_ts, aGuard_fs, aPick_b, aPick_t, aPick_f, aAlloc_one, aAlloc_flat, aBox_some, aBuild_flat, aInt_add, aBin_add, aInt_sub, aBin_sub, aInt_mul, aBin_mul, aInt_quo, aBin_quo, aInt_rem, aBin_rem, aInt_and, aBin_and, aInt_or, aBin_or, aInt_xor, aBin_xor, aInt_andNot, aBin_andNot, aInt_eql, aBin_eql, aInt_neq, aBin_neq, aInt_lss, aBin_lss, aInt_leq, aBin_leq, aInt_gtr, aBin_gtr, aInt_geq, aBin_geq, aBin_shl, aBin_shr, aShift_shl, aShift_shr, aBin_be1, aBin_bn1, aBin_be2, aBin_bn2, aBin_be3, aBin_bn3, aBin_be4, aBin_bn4, aBin_be5, aBin_bn5, aBin_be6, aBin_bn6, aBin_be7, aBin_bn7, aBin_be8, aBin_bn8, aBin_be9, aBin_bn9, aUn_b, aUn_t, aUn_f, aUn_i, aNil_ptr, aNil_pv, aConv_int, aField_ptr, aField_pv, aIdx_sl, aIdx_prm, aIdx_row, aIdx_drow, aMake_i, aMake_s, aExtr_tup, aLen_ref, aLen_nil, aLen_sl, aLen_prm, aLen_str, aBuildL_some, aBuildS_some, aLoad_1b, aLoad_1d, aLoad_fb, aLoad_fd, aLoad_1p, aLoad_fp, aLoad_ep, aLoad_rr, aLoad_rd, aStore_1, aStore_f, aStore_r, aApp_some, aAppend_nil, aAppend_ref, aSlice_h, aSlice_l, aSlice_lh, aop_slice3, aSlice3_r, aop_field, aFld_agg, aBinW_f, aBinW_t, aWrap_mul, aWrap_add, isW_tmp, isW_mulc, isW_addc, isW_sub, isW_quo, isW_rem, isW_and, isW_or, isW_xor, isW_andNot, isW_shl, isW_shr, isW_eql, isW_neq, isW_lss, isW_leq, isW_gtr, isW_geq, Int.reduceLT, aBinW_dF, aBinW_dT, bc_draw, kregD_at, aopsD_nil, aopsD_plain, aopsD_guard, kontD_at, contD_at, yesD_at, noD_at, splD_bool, splD_undef, splD_skip, splD_int, splD_tt, splD_ff, splD_str, splD_nil, splD_sl, splD_prm, splD_ref, splD_ptr, splD_rp, splD_ep, splD_pv, splD_agg, splD_tup, splD_clo, gD_tt, gD_tf, gD_ft, gD_ff, gD_ts, gD_fs, slotO_some, addTr_nil, addTr_cons, memQ_nil, memQ_cons, clash_nil, clash_cons, regC_none, regC_nil, regC_cons, regR_nil, regR_cons, Int.toNat_zero, Int.toNat_one, rng0, rng1, rng2, rng3, rng4, SC.take, SC.drop, mp_nil, acond_ct, acond_cf, mp_one0, mp_one1, mp_one2, mp_one3, kcall_one, liveB_row, liveB_box, idx, cont, still, dies, lend, lendA, lendDies, snocs, SC.snoc, SC.app, meet, AV.cells, fillA, List.getD_cons_zero, List.getD_cons_succ, List.set_cons_zero, List.set_cons_succ, List.length_singleton, Nat.le_refl, Nat.lt_irrefl, Nat.reduceLT, Nat.reduceLeDiff, Option.map_some, Option.map_none, List.flatMap_nil, List.flatMap_cons, Nat.zero_add, BEq.rfl, kcall_two, mp_two0, mp_two1, mp_two2, mp_two3, mp_two4, aop_makeFunc, plainA, Bool.true_and, sl3, ty3, un3, sl49, ty49, un49, sl71, ty71, un71, sl69, ty69, un69, sl5, ty5, un5, sl2, ty2, un2, sl21, ty21, un21, sl4, ty4, un4, sl9, un9, sl22, ty22, un22, sl31, ty31, un31, sl36, sl53, ty38, sl38, ty41, sl41, inR64, inRu64, inRu32, Int.toNat_natCast]
  refine ⟨fun hi => ⟨by omega, by omega, fun hne => ?_, fun he => ⟨by omega, ?_⟩⟩, fun hi => ?_⟩
  · congr 1; symm; simp; intro e; rw [e] at hne; exact hne rfl
  · refine klp_of (i + 1) rfl ⟨by omega, fun k hk => ?_⟩ (by omega)
    by_cases e : k = i
    · rw [e]; exact he
    · exact h2 k (by omega)
  · congr 1; symm; simp
    exact eq_of_get h fun k hk => h2 k (by omega)
def lend_laws_eqIntS : List Nat := []
def sp_laws_eqIntS : List AV → List Bx → (AV → List Bx → Prop) → Prop
  | [.sl none (.ints .i64 xs), .sl none (.ints .i64 ys)], [], K => K (.bool (decide (xs = ys))) []
  | _, _, _ => False
theorem at_laws_eqIntS {xs ys : List Int} {K : AV → List Bx → Prop} : sp_laws_eqIntS [.sl none (.ints .i64 xs), .sl none (.ints .i64 ys)] [] K = (K (.bool (decide (xs = ys))) []) := id rfl
theorem ok_laws_eqIntS : ∀ args giv K, sp_laws_eqIntS args giv K → ∃ r outs, ARuns Try.prog 13 args giv r outs ∧ K r outs := by
  intro args giv K hk
  unfold sp_laws_eqIntS at hk
  split at hk
  · exact ⟨_, _, runs_laws_eqIntS _ _ , hk⟩
  · exact hk.elim
theorem is_spec_l1In : FnIs Try.prog 42 15 [.tmp 6] (Try.f42.body.getD .skip) := ⟨⟨Try.f42, by kernel_rfl, by kernel_rfl, by kernel_rfl, by kernel_rfl⟩, by kernel_rfl, by kernel_rfl⟩
def G_spec_l1In : Gm := Gm.none
theorem G_spec_l1In_ok : G_spec_l1In.ok Try.prog := Gm.none_ok
set_option maxHeartbeats 1000000 in
set_option maxRecDepth 100000 in
theorem runs_spec_l1In (n l m : Int) : ARuns Try.prog 42 [.int .i64 n, .int .i64 l, .int .i64 m] [] (.bool (inB n l m)) [] := by
  refine ARuns_bc G_spec_l1In_ok is_spec_l1In (by simp) fun hl hlB => ?_
  simp only [kcode_at, kreg_at, bc_skip, bc_seq, bc_cond, bc_block, bc_exit, bc_ret, bc_region, lkX_cons, acond_tmp, aCase_t, aCase_f, aCase_b, afin_nil, cvE_some, resL, resV, resC, cv, cvL, pack, entryE, inPrm, Option.getD_some, acall_clo, add_sp, add_lend, kcall_nil, selOf, selC, selA, inArgs, inA, inL, okA, okL, okBx, okC, outA, outL, outU, outB, deep, deepL, boxIds, AV.bid, List.map_nil, List.map_cons, List.all_nil, List.all_cons, BEq.rfl, Bool.and_true, Bool.true_and, List.append_nil, aops_nil, aops_plain, aops_guard, kont_at, yes_at, no_at, aop_move, aop_assign, aop_pick, aop_alloc, aop_box, aop_build, aop_buildSlice, aop_load, aop_store, aop_nilCheck, aop_binOp, aop_unOp, aop_convert, aop_fieldAddr, aop_indexAddr, aop_slice, aop_extract, aop_makeSlice, aop_len, aop_max, aMax_int, slTy2, SC0, aop_append, aop_call, evalE, getE, putE, getB, setB, St.put, setsB, nth, AV.ofV, AV.blk, AV.bid, AV.one, SC.len, SC.get, List.length_nil, List.length_cons, Nat.reduceEqDiff, Nat.reduceAdd, ↓reduceIte, true_and, and_true, Bool.true_eq_false, Bool.false_eq_true, false_imp_iff, true_imp_iff, decide_eq_true_eq, Bool.not_eq_true', Bool.not_eq_false', decide_eq_false_iff_not, Option.isSome, List.nil_append, List.cons_append, aGuardO_some, aGuard_tt, aGuard_tf, aGuard_ft, aGuard_ff, aGuard_tb, aGuard_fb, aGuard_ts, aGuard_fs, aPick_b, aPick_t, aPick_f, aAlloc_one, aAlloc_flat, aBox_some, aBuild_flat, aInt_add, aBin_add, aInt_sub, aBin_sub, aInt_mul, aBin_mul, aInt_quo, aBin_quo, aInt_rem, aBin_rem, aInt_and, aBin_and, aInt_or, aBin_or, aInt_xor, aBin_xor, aInt_andNot, aBin_andNot, aInt_eql, aBin_eql, aInt_neq, aBin_neq, aInt_lss, aBin_lss, aInt_leq, aBin_leq, aInt_gtr, aBin_gtr, aInt_geq, aBin_geq, aBin_shl, aBin_shr, aShift_shl, aShift_shr, aBin_be1, aBin_bn1, aBin_be2, aBin_bn2, aBin_be3, aBin_bn3, aBin_be4, aBin_bn4, aBin_be5, aBin_bn5, aBin_be6, aBin_bn6, aBin_be7, aBin_bn7, aBin_be8, aBin_bn8, aBin_be9, aBin_bn9, aUn_b, aUn_t, aUn_f, aUn_i, aNil_ptr, aNil_pv, aConv_int, aField_ptr, aField_pv, aIdx_sl, aIdx_prm, aIdx_row, aIdx_drow, aMake_i, aMake_s, aExtr_tup, aLen_ref, aLen_nil, aLen_sl, aLen_prm, aLen_str, aBuildL_some, aBuildS_some, aLoad_1b, aLoad_1d, aLoad_fb, aLoad_fd, aLoad_1p, aLoad_fp, aLoad_ep, aLoad_rr, aLoad_rd, aStore_1, aStore_f, aStore_r, aApp_some, aAppend_nil, aAppend_ref, aSlice_h, aSlice_l, aSlice_lh, aop_slice3, aSlice3_r, aop_field, aFld_agg, aBinW_f, aBinW_t, aWrap_mul, aWrap_add, isW_tmp, isW_mulc, isW_addc, isW_sub, isW_quo, isW_rem, isW_and, isW_or, isW_xor, isW_andNot, isW_shl, isW_shr, isW_eql, isW_neq, isW_lss, isW_leq, isW_gtr, isW_geq, Int.reduceLT, aBinW_dF, aBinW_dT, bc_draw, kregD_at, aopsD_nil, aopsD_plain, aopsD_guard, kontD_at, contD_at, yesD_at, noD_at, splD_bool, splD_undef, splD_skip, splD_int, splD_tt, splD_ff, splD_str, splD_nil, splD_sl, splD_prm, splD_ref, splD_ptr, splD_rp, splD_ep, splD_pv, splD_agg, splD_tup, splD_clo, gD_tt, gD_tf, gD_ft, gD_ff, gD_ts, gD_fs, slotO_some, addTr_nil, addTr_cons, memQ_nil, memQ_cons, clash_nil, clash_cons, regC_none, regC_nil, regC_cons, regR_nil, regR_cons, Int.toNat_zero, Int.toNat_one, rng0, rng1, rng2, rng3, rng4, SC.take, SC.drop, mp_nil, acond_ct, acond_cf, mp_one0, mp_one1, mp_one2, mp_one3, kcall_one, liveB_row, liveB_box, idx, cont, still, dies, lend, lendA, lendDies, snocs, SC.snoc, SC.app, meet, AV.cells, fillA, List.getD_cons_zero, List.getD_cons_succ, List.set_cons_zero, List.set_cons_succ, List.length_singleton, Nat.le_refl, Nat.lt_irrefl, Nat.reduceLT, Nat.reduceLeDiff, Option.map_some, Option.map_none, List.flatMap_nil, List.flatMap_cons, Nat.zero_add, BEq.rfl, kcall_two, mp_two0, mp_two1, mp_two2, mp_two3, mp_two4, aop_makeFunc, plainA, Bool.true_and, sl3, ty3, un3, sl49, ty49, un49, sl71, ty71, un71, sl69, ty69, un69, sl5, ty5, un5, sl2, ty2, un2, sl21, ty21, un21, sl4, ty4, un4, sl9, un9, sl22, ty22, un22, sl31, ty31, un31, sl36, sl53, ty38, sl38, ty41, sl41, inR64, inRu64, inRu32, Try.f42]
  refine ⟨fun h => ?_, fun h => ?_⟩ <;> simp [h, inB]
def lend_spec_l1In : List Nat := []
def sp_spec_l1In : List AV → List Bx → (AV → List Bx → Prop) → Prop
  | [.int .i64 n, .int .i64 l, .int .i64 m], [], K => K (.bool (inB n l m)) []
  | _, _, _ => False
theorem at_spec_l1In {n l m : Int} {K : AV → List Bx → Prop} : sp_spec_l1In [.int .i64 n, .int .i64 l, .int .i64 m] [] K = (K (.bool (inB n l m)) []) := id rfl
theorem ok_spec_l1In : ∀ args giv K, sp_spec_l1In args giv K → ∃ r outs, ARuns Try.prog 42 args giv r outs ∧ K r outs := by
  intro args giv K hk
  unfold sp_spec_l1In at hk
  split at hk
  · exact ⟨_, _, runs_spec_l1In _ _ _ , hk⟩
  · exact hk.elim
theorem is_spec_l2Full : FnIs Try.prog 57 6 [.tmp 2] (Try.f57.body.getD .skip) := ⟨⟨Try.f57, by kernel_rfl, by kernel_rfl, by kernel_rfl, by kernel_rfl⟩, by kernel_rfl, by kernel_rfl⟩
def G_spec_l2Full : Gm := Gm.none
theorem G_spec_l2Full_ok : G_spec_l2Full.ok Try.prog := Gm.none_ok
set_option maxHeartbeats 1000000 in
set_option maxRecDepth 100000 in
theorem runs_spec_l2Full (n : Int) (hp1 : 0 ≤ n ∧ n ≤ 10) : ARuns Try.prog 57 [.int .i64 n] [] (.int .i64 (fullI n)) [] := by
  refine ARuns_bc G_spec_l2Full_ok is_spec_l2Full (by simp) fun hl hlB => ?_
  simp only [kcode_at, kreg_at, bc_skip, bc_seq, bc_cond, bc_block, bc_exit, bc_ret, bc_region, lkX_cons, acond_tmp, aCase_t, aCase_f, aCase_b, afin_nil, cvE_some, resL, resV, resC, cv, cvL, pack, entryE, inPrm, Option.getD_some, acall_clo, add_sp, add_lend, kcall_nil, selOf, selC, selA, inArgs, inA, inL, okA, okL, okBx, okC, outA, outL, outU, outB, deep, deepL, boxIds, AV.bid, List.map_nil, List.map_cons, List.all_nil, List.all_cons, BEq.rfl, Bool.and_true, Bool.true_and, List.append_nil, aops_nil, aops_plain, aops_guard, kont_at, yes_at, no_at, aop_move, aop_assign, aop_pick, aop_alloc, aop_box, aop_build, aop_buildSlice, aop_load, aop_store, aop_nilCheck, aop_binOp, aop_unOp, aop_convert, aop_fieldAddr, aop_indexAddr, aop_slice, aop_extract, aop_makeSlice, aop_len, aop_max, aMax_int, slTy2, SC0, aop_append, aop_call, evalE, getE, putE, getB, setB, St.put, setsB, nth, AV.ofV, AV.blk, AV.bid, AV.one, SC.len, SC.get, List.length_nil, List.length_cons, Nat.reduceEqDiff, Nat.reduceAdd, ↓reduceIte, true_and, and_true, Bool.true_eq_false, Bool.false_eq_true, false_imp_iff, true_imp_iff, decide_eq_true_eq, Bool.not_eq_true', Bool.not_eq_false', decide_eq_false_iff_not, Option.isSome, List.nil_append, List.cons_append, aGuardO_some, aGuard_tt, aGuard_tf, aGuard_ft, aGuard_ff, aGuard_tb, aGuard_fb, aGuard_ts, aGuard_fs, aPick_b, aPick_t, aPick_f, aAlloc_one, aAlloc_flat, aBox_some, aBuild_flat, aInt_add, aBin_add, aInt_sub, aBin_sub, aInt_mul, aBin_mul, aInt_quo, aBin_quo, aInt_rem, aBin_rem, aInt_and, aBin_and, aInt_or, aBin_or, aInt_xor, aBin_xor, aInt_andNot, aBin_andNot, aInt_eql, aBin_eql, aInt_neq, aBin_neq, aInt_lss, aBin_lss, aInt_leq, aBin_leq, aInt_gtr, aBin_gtr, aInt_geq, aBin_geq, aBin_shl, aBin_shr, aShift_shl, aShift_shr, aBin_be1, aBin_bn1, aBin_be2, aBin_bn2, aBin_be3, aBin_bn3, aBin_be4, aBin_bn4, aBin_be5, aBin_bn5, aBin_be6, aBin_bn6, aBin_be7, aBin_bn7, aBin_be8, aBin_bn8, aBin_be9, aBin_bn9, aUn_b, aUn_t, aUn_f, aUn_i, aNil_ptr, aNil_pv, aConv_int, aField_ptr, aField_pv, aIdx_sl, aIdx_prm, aIdx_row, aIdx_drow, aMake_i, aMake_s, aExtr_tup, aLen_ref, aLen_nil, aLen_sl, aLen_prm, aLen_str, aBuildL_some, aBuildS_some, aLoad_1b, aLoad_1d, aLoad_fb, aLoad_fd, aLoad_1p, aLoad_fp, aLoad_ep, aLoad_rr, aLoad_rd, aStore_1, aStore_f, aStore_r, aApp_some, aAppend_nil, aAppend_ref, aSlice_h, aSlice_l, aSlice_lh, aop_slice3, aSlice3_r, aop_field, aFld_agg, aBinW_f, aBinW_t, aWrap_mul, aWrap_add, isW_tmp, isW_mulc, isW_addc, isW_sub, isW_quo, isW_rem, isW_and, isW_or, isW_xor, isW_andNot, isW_shl, isW_shr, isW_eql, isW_neq, isW_lss, isW_leq, isW_gtr, isW_geq, Int.reduceLT, aBinW_dF, aBinW_dT, bc_draw, kregD_at, aopsD_nil, aopsD_plain, aopsD_guard, kontD_at, contD_at, yesD_at, noD_at, splD_bool, splD_undef, splD_skip, splD_int, splD_tt, splD_ff, splD_str, splD_nil, splD_sl, splD_prm, splD_ref, splD_ptr, splD_rp, splD_ep, splD_pv, splD_agg, splD_tup, splD_clo, gD_tt, gD_tf, gD_ft, gD_ff, gD_ts, gD_fs, slotO_some, addTr_nil, addTr_cons, memQ_nil, memQ_cons, clash_nil, clash_cons, regC_none, regC_nil, regC_cons, regR_nil, regR_cons, Int.toNat_zero, Int.toNat_one, rng0, rng1, rng2, rng3, rng4, SC.take, SC.drop, mp_nil, acond_ct, acond_cf, mp_one0, mp_one1, mp_one2, mp_one3, kcall_one, liveB_row, liveB_box, idx, cont, still, dies, lend, lendA, lendDies, snocs, SC.snoc, SC.app, meet, AV.cells, fillA, List.getD_cons_zero, List.getD_cons_succ, List.set_cons_zero, List.set_cons_succ, List.length_singleton, Nat.le_refl, Nat.lt_irrefl, Nat.reduceLT, Nat.reduceLeDiff, Option.map_some, Option.map_none, List.flatMap_nil, List.flatMap_cons, Nat.zero_add, BEq.rfl, kcall_two, mp_two0, mp_two1, mp_two2, mp_two3, mp_two4, aop_makeFunc, plainA, Bool.true_and, sl3, ty3, un3, sl49, ty49, un49, sl71, ty71, un71, sl69, ty69, un69, sl5, ty5, un5, sl2, ty2, un2, sl21, ty21, un21, sl4, ty4, un4, sl9, un9, sl22, ty22, un22, sl31, ty31, un31, sl36, sl53, ty38, sl38, ty41, sl41, inR64, inRu64, inRu32, Try.f57]
  have h := full_bd hp1
  have e : 1 * 2 ^ n.toNat - 1 = fullI n := by unfold fullI; omega
  have e2 : (1 : Int) * 2 ^ n.toNat = fullI n + 1 := by omega
  simp only [IntKind.bits]
  rw [e, e2]
  (repeat' (first | apply And.intro | intro _)) <;> try (first | omega | trivial)
def lend_spec_l2Full : List Nat := []
def sp_spec_l2Full : List AV → List Bx → (AV → List Bx → Prop) → Prop
  | [.int .i64 n], [], K => (0 ≤ n ∧ n ≤ 10) ∧ K (.int .i64 (fullI n)) []
  | _, _, _ => False
theorem at_spec_l2Full {n : Int} {K : AV → List Bx → Prop} : sp_spec_l2Full [.int .i64 n] [] K = ((0 ≤ n ∧ n ≤ 10) ∧ K (.int .i64 (fullI n)) []) := id rfl
theorem ok_spec_l2Full : ∀ args giv K, sp_spec_l2Full args giv K → ∃ r outs, ARuns Try.prog 57 args giv r outs ∧ K r outs := by
  intro args giv K hk
  unfold sp_spec_l2Full at hk
  split at hk
  · obtain ⟨hp1, hk⟩ := hk; exact ⟨_, _, runs_spec_l2Full _ hp1, hk⟩
  · exact hk.elim
theorem is_spec_l28Lists : FnIs Try.prog 35 28 [.tmp 4] (Try.f35.body.getD .skip) := ⟨⟨Try.f35, by kernel_rfl, by kernel_rfl, by kernel_rfl, by kernel_rfl⟩, by kernel_rfl, by kernel_rfl⟩
def G_spec_l28Lists : Gm := ((Gm.none.add 42 lend_spec_l1In sp_spec_l1In).add 57 lend_spec_l2Full sp_spec_l2Full)
theorem G_spec_l28Lists_ok : G_spec_l28Lists.ok Try.prog := (Gm.add_ok (Gm.add_ok Gm.none_ok ok_spec_l1In) ok_spec_l2Full)
theorem gs_spec_l28Lists_42 : G_spec_l28Lists.sp 42 = sp_spec_l1In ∧ G_spec_l28Lists.lend 42 = lend_spec_l1In := ⟨rfl, rfl⟩
theorem gs_spec_l28Lists_57 : G_spec_l28Lists.sp 57 = sp_spec_l2Full ∧ G_spec_l28Lists.lend 57 = lend_spec_l2Full := ⟨rfl, rfl⟩
set_option maxHeartbeats 1000000 in
set_option maxRecDepth 100000 in
theorem runs_spec_l28Lists (n : Int) (xs : List Int) : ARuns Try.prog 35 [.int .i64 n, .sl none (.ints .i64 xs)] [] (.bool (fewB n xs)) [] := by
  refine ARuns_bc G_spec_l28Lists_ok is_spec_l28Lists (by simp) fun hl hlB => ?_
  simp only [kcode_at, kreg_at, bc_skip, bc_seq, bc_cond, bc_block, bc_exit, bc_ret, bc_region, lkX_cons, acond_tmp, aCase_t, aCase_f, aCase_b, afin_nil, cvE_some, resL, resV, resC, cv, cvL, pack, entryE, inPrm, Option.getD_some, acall_clo, add_sp, add_lend, kcall_nil, selOf, selC, selA, inArgs, inA, inL, okA, okL, okBx, okC, outA, outL, outU, outB, deep, deepL, boxIds, AV.bid, List.map_nil, List.map_cons, List.all_nil, List.all_cons, BEq.rfl, Bool.and_true, Bool.true_and, List.append_nil, aops_nil, aops_plain, aops_guard, kont_at, yes_at, no_at, aop_move, aop_assign, aop_pick, aop_alloc, aop_box, aop_build, aop_buildSlice, aop_load, aop_store, aop_nilCheck, aop_binOp, aop_unOp, aop_convert, aop_fieldAddr, aop_indexAddr, aop_slice, aop_extract, aop_makeSlice, aop_len, aop_max, aMax_int, slTy2, SC0, aop_append, aop_call, evalE, getE, putE, getB, setB, St.put, setsB, nth, AV.ofV, AV.blk, AV.bid, AV.one, SC.len, SC.get, List.length_nil, List.length_cons, Nat.reduceEqDiff, Nat.reduceAdd, ↓reduceIte, true_and, and_true, Bool.true_eq_false, Bool.false_eq_true, false_imp_iff, true_imp_iff, decide_eq_true_eq, Bool.not_eq_true', Bool.not_eq_false', decide_eq_false_iff_not, Option.isSome, List.nil_append, List.cons_append, aGuardO_some, aGuard_tt, aGuard_tf, aGuard_ft, aGuard_ff, aGuard_tb, aGuard_fb, aGuard_ts, aGuard_fs, aPick_b, aPick_t, aPick_f, aAlloc_one, aAlloc_flat, aBox_some, aBuild_flat, aInt_add, aBin_add, aInt_sub, aBin_sub, aInt_mul, aBin_mul, aInt_quo, aBin_quo, aInt_rem, aBin_rem, aInt_and, aBin_and, aInt_or, aBin_or, aInt_xor, aBin_xor, aInt_andNot, aBin_andNot, aInt_eql, aBin_eql, aInt_neq, aBin_neq, aInt_lss, aBin_lss, aInt_leq, aBin_leq, aInt_gtr, aBin_gtr, aInt_geq, aBin_geq, aBin_shl, aBin_shr, aShift_shl, aShift_shr, aBin_be1, aBin_bn1, aBin_be2, aBin_bn2, aBin_be3, aBin_bn3, aBin_be4, aBin_bn4, aBin_be5, aBin_bn5, aBin_be6, aBin_bn6, aBin_be7, aBin_bn7, aBin_be8, aBin_bn8, aBin_be9, aBin_bn9, aUn_b, aUn_t, aUn_f, aUn_i, aNil_ptr, aNil_pv, aConv_int, aField_ptr, aField_pv, aIdx_sl, aIdx_prm, aIdx_row, aIdx_drow, aMake_i, aMake_s, aExtr_tup, aLen_ref, aLen_nil, aLen_sl, aLen_prm, aLen_str, aBuildL_some, aBuildS_some, aLoad_1b, aLoad_1d, aLoad_fb, aLoad_fd, aLoad_1p, aLoad_fp, aLoad_ep, aLoad_rr, aLoad_rd, aStore_1, aStore_f, aStore_r, aApp_some, aAppend_nil, aAppend_ref, aSlice_h, aSlice_l, aSlice_lh, aop_slice3, aSlice3_r, aop_field, aFld_agg, aBinW_f, aBinW_t, aWrap_mul, aWrap_add, isW_tmp, isW_mulc, isW_addc, isW_sub, isW_quo, isW_rem, isW_and, isW_or, isW_xor, isW_andNot, isW_shl, isW_shr, isW_eql, isW_neq, isW_lss, isW_leq, isW_gtr, isW_geq, Int.reduceLT, aBinW_dF, aBinW_dT, bc_draw, kregD_at, aopsD_nil, aopsD_plain, aopsD_guard, kontD_at, contD_at, yesD_at, noD_at, splD_bool, splD_undef, splD_skip, splD_int, splD_tt, splD_ff, splD_str, splD_nil, splD_sl, splD_prm, splD_ref, splD_ptr, splD_rp, splD_ep, splD_pv, splD_agg, splD_tup, splD_clo, gD_tt, gD_tf, gD_ft, gD_ff, gD_ts, gD_fs, slotO_some, addTr_nil, addTr_cons, memQ_nil, memQ_cons, clash_nil, clash_cons, regC_none, regC_nil, regC_cons, regR_nil, regR_cons, Int.toNat_zero, Int.toNat_one, rng0, rng1, rng2, rng3, rng4, SC.take, SC.drop, mp_nil, acond_ct, acond_cf, mp_one0, mp_one1, mp_one2, mp_one3, kcall_one, liveB_row, liveB_box, idx, cont, still, dies, lend, lendA, lendDies, snocs, SC.snoc, SC.app, meet, AV.cells, fillA, List.getD_cons_zero, List.getD_cons_succ, List.set_cons_zero, List.set_cons_succ, List.length_singleton, Nat.le_refl, Nat.lt_irrefl, Nat.reduceLT, Nat.reduceLeDiff, Option.map_some, Option.map_none, List.flatMap_nil, List.flatMap_cons, Nat.zero_add, BEq.rfl, kcall_two, mp_two0, mp_two1, mp_two2, mp_two3, mp_two4, aop_makeFunc, plainA, Bool.true_and, sl3, ty3, un3, sl49, ty49, un49, sl71, ty71, un71, sl69, ty69, un69, sl5, ty5, un5, sl2, ty2, un2, sl21, ty21, un21, sl4, ty4, un4, sl9, un9, sl22, ty22, un22, sl31, ty31, un31, sl36, sl53, ty38, sl38, ty41, sl41, inR64, inRu64, inRu32, gs_spec_l28Lists_42, at_spec_l1In, lend_spec_l1In, gs_spec_l28Lists_57, at_spec_l2Full, lend_spec_l2Full, Try.f35]
  simp only [lensA, lenA, lenSC] at hl
  refine ⟨fun h => by rw [fewB, setsOk, h]; simp, fun hn => ⟨fun h => by rw [fewB, decide_eq_false (by omega)]; rfl, fun h6 => ?_⟩⟩
  have e6 : decide (xs.length ≤ 6) = true := decide_eq_true (by omega)
  refine bc_loop (fun i : Nat => i ≤ xs.length ∧ ∀ k, k < i → inS n (xs.getD k 0) = true)
    (fun i => ⟨[(0, .int .i64 n), (1, .prm 1 (.ints .i64 xs)), (5, .int .i64 i)], []⟩) (fun i => xs.length - i)
    [0, 1, 5] [] 0 rfl rfl (by simp) fun i ⟨h1, h2⟩ => ?_
  simp only [kcode_at, kreg_at, bc_skip, bc_seq, bc_cond, bc_block, bc_exit, bc_ret, bc_region, lkX_cons, acond_tmp, aCase_t, aCase_f, aCase_b, afin_nil, cvE_some, resL, resV, resC, cv, cvL, pack, entryE, inPrm, Option.getD_some, acall_clo, add_sp, add_lend, kcall_nil, selOf, selC, selA, inArgs, inA, inL, okA, okL, okBx, okC, outA, outL, outU, outB, deep, deepL, boxIds, AV.bid, List.map_nil, List.map_cons, List.all_nil, List.all_cons, BEq.rfl, Bool.and_true, Bool.true_and, List.append_nil, aops_nil, aops_plain, aops_guard, kont_at, yes_at, no_at, aop_move, aop_assign, aop_pick, aop_alloc, aop_box, aop_build, aop_buildSlice, aop_load, aop_store, aop_nilCheck, aop_binOp, aop_unOp, aop_convert, aop_fieldAddr, aop_indexAddr, aop_slice, aop_extract, aop_makeSlice, aop_len, aop_max, aMax_int, slTy2, SC0, aop_append, aop_call, evalE, getE, putE, getB, setB, St.put, setsB, nth, AV.ofV, AV.blk, AV.bid, AV.one, SC.len, SC.get, List.length_nil, List.length_cons, Nat.reduceEqDiff, Nat.reduceAdd, ↓reduceIte, true_and, and_true, Bool.true_eq_false, Bool.false_eq_true, false_imp_iff, true_imp_iff, decide_eq_true_eq, Bool.not_eq_true', Bool.not_eq_false', decide_eq_false_iff_not, Option.isSome, List.nil_append, List.cons_append, aGuardO_some, aGuard_tt, aGuard_tf, aGuard_ft, aGuard_ff, aGuard_tb, aGuard_fb, aGuard_ts, aGuard_fs, aPick_b, aPick_t, aPick_f, aAlloc_one, aAlloc_flat, aBox_some, aBuild_flat, aInt_add, aBin_add, aInt_sub, aBin_sub, aInt_mul, aBin_mul, aInt_quo, aBin_quo, aInt_rem, aBin_rem, aInt_and, aBin_and, aInt_or, aBin_or, aInt_xor, aBin_xor, aInt_andNot, aBin_andNot, aInt_eql, aBin_eql, aInt_neq, aBin_neq, aInt_lss, aBin_lss, aInt_leq, aBin_leq, aInt_gtr, aBin_gtr, aInt_geq, aBin_geq, aBin_shl, aBin_shr, aShift_shl, aShift_shr, aBin_be1, aBin_bn1, aBin_be2, aBin_bn2, aBin_be3, aBin_bn3, aBin_be4, aBin_bn4, aBin_be5, aBin_bn5, aBin_be6, aBin_bn6, aBin_be7, aBin_bn7, aBin_be8, aBin_bn8, aBin_be9, aBin_bn9, aUn_b, aUn_t, aUn_f, aUn_i, aNil_ptr, aNil_pv, aConv_int, aField_ptr, aField_pv, aIdx_sl, aIdx_prm, aIdx_row, aIdx_drow, aMake_i, aMake_s, aExtr_tup, aLen_ref, aLen_nil, aLen_sl, aLen_prm, aLen_str, aBuildL_some, aBuildS_some, aLoad_1b, aLoad_1d, aLoad_fb, aLoad_fd, aLoad_1p, aLoad_fp, aLoad_ep, aLoad_rr, aLoad_rd, aStore_1, aStore_f, aStore_r, aApp_some, aAppend_nil, aAppend_ref, aSlice_h, aSlice_l, aSlice_lh, aop_slice3, aSlice3_r, aop_field, aFld_agg, aBinW_f, aBinW_t, aWrap_mul, aWrap_add, isW_tmp, isW_mulc, isW_addc, isW_sub, isW_quo, isW_rem, isW_and, isW_or, isW_xor, isW_andNot, isW_shl, isW_shr, isW_eql, isW_neq, isW_lss, isW_leq, isW_gtr, isW_geq, Int.reduceLT, aBinW_dF, aBinW_dT, bc_draw, kregD_at, aopsD_nil, aopsD_plain, aopsD_guard, kontD_at, contD_at, yesD_at, noD_at, splD_bool, splD_undef, splD_skip, splD_int, splD_tt, splD_ff, splD_str, splD_nil, splD_sl, splD_prm, splD_ref, splD_ptr, splD_rp, splD_ep, splD_pv, splD_agg, splD_tup, splD_clo, gD_tt, gD_tf, gD_ft, gD_ff, gD_ts, gD_fs, slotO_some, addTr_nil, addTr_cons, memQ_nil, memQ_cons, clash_nil, clash_cons, regC_none, regC_nil, regC_cons, regR_nil, regR_cons, Int.toNat_zero, Int.toNat_one, rng0, rng1, rng2, rng3, rng4, SC.take, SC.drop, mp_nil, acond_ct, acond_cf, mp_one0, mp_one1, mp_one2, mp_one3, kcall_one, liveB_row, liveB_box, idx, cont, still, dies, lend, lendA, lendDies, snocs, SC.snoc, SC.app, meet, AV.cells, fillA, List.getD_cons_zero, List.getD_cons_succ, List.set_cons_zero, List.set_cons_succ, List.length_singleton, Nat.le_refl, Nat.lt_irrefl, Nat.reduceLT, Nat.reduceLeDiff, Option.map_some, Option.map_none, List.flatMap_nil, List.flatMap_cons, Nat.zero_add, BEq.rfl, kcall_two, mp_two0, mp_two1, mp_two2, mp_two3, mp_two4, aop_makeFunc, plainA, Bool.true_and, sl3, ty3, un3, sl49, ty49, un49, sl71, ty71, un71, sl69, ty69, un69, sl5, ty5, un5, sl2, ty2, un2, sl21, ty21, un21, sl4, ty4, un4, sl9, un9, sl22, ty22, un22, sl31, ty31, un31, sl36, sl53, ty38, sl38, ty41, sl41, inR64, inRu64, inRu32, gs_spec_l28Lists_42, at_spec_l1In, lend_spec_l1In, gs_spec_l28Lists_57, at_spec_l2Full, lend_spec_l2Full, Int.toNat_natCast]
  have hb := hn
  rw [inB_t] at hb
  have eS : inB (xs.getD i 0) 0 (fullI n) = inS n (xs.getD i 0) := rfl
  rw [eS]
  refine ⟨fun hi => ⟨by omega, by omega, fun ht => ⟨by omega, ?_⟩, fun hf => ?_⟩, fun hi => ?_⟩
  · exact klp_of (i + 1) rfl ⟨by omega, upto_succ h2 ht⟩ (by omega)
  · rw [fewB, setsOk, allN_f i (by omega) hf]; simp
  · have : i = xs.length := by omega
    subst this
    rw [fewB, setsOk, hn, e6, allN_t h2]; rfl
def lend_spec_l28Lists : List Nat := []
def sp_spec_l28Lists : List AV → List Bx → (AV → List Bx → Prop) → Prop
  | [.int .i64 n, .sl none (.ints .i64 xs)], [], K => K (.bool (fewB n xs)) []
  | _, _, _ => False
theorem at_spec_l28Lists {n : Int} {xs : List Int} {K : AV → List Bx → Prop} : sp_spec_l28Lists [.int .i64 n, .sl none (.ints .i64 xs)] [] K = (K (.bool (fewB n xs)) []) := id rfl
theorem ok_spec_l28Lists : ∀ args giv K, sp_spec_l28Lists args giv K → ∃ r outs, ARuns Try.prog 35 args giv r outs ∧ K r outs := by
  intro args giv K hk
  unfold sp_spec_l28Lists at hk
  split at hk
  · exact ⟨_, _, runs_spec_l28Lists _ _ , hk⟩
  · exact hk.elim
theorem is_spec_l28Find : FnIs Try.prog 39 59 [.tmp 8, .tmp 9] (Try.f39.body.getD .skip) := ⟨⟨Try.f39, by kernel_rfl, by kernel_rfl, by kernel_rfl, by kernel_rfl⟩, by kernel_rfl, by kernel_rfl⟩
def lend_spec_l28Find : List Nat := []
def spR_spec_l28Find (N : Nat) : List AV → List Bx → (AV → List Bx → Prop) → Prop
  | [.int .i64 n, .sl none (.ints .i64 l), .sl none (.ints .i64 x), .int .i64 u], [], K => (l.length - x.length < N) ∧ (0 ≤ n ∧ n ≤ 6) ∧ (l.length ≤ 6) ∧ (∀ j, j < l.length → 0 ≤ l.getD j 0 ∧ l.getD j 0 ≤ 63 ∧ l.getD j 0 ≤ fullI n) ∧ (x.length ≤ l.length) ∧ (0 ≤ u ∧ u ≤ 63) ∧ ((x.length = l.length) → K (.tup [.prm 2 (.ints .i64 x), .bool true]) []) ∧ ((¬ x.length = l.length) → K (.tup [.sl (some 3) (.ints .i64 (opL (repO (l.drop x.length) u.toNat x))), .bool (opB (repO (l.drop x.length) u.toNat x))]) [])
  | _, _, _ => False
theorem atR_spec_l28Find {N : Nat} {n : Int} {l x : List Int} {u : Int} {K : AV → List Bx → Prop} : spR_spec_l28Find N [.int .i64 n, .sl none (.ints .i64 l), .sl none (.ints .i64 x), .int .i64 u] [] K = ((l.length - x.length < N) ∧ (0 ≤ n ∧ n ≤ 6) ∧ (l.length ≤ 6) ∧ (∀ j, j < l.length → 0 ≤ l.getD j 0 ∧ l.getD j 0 ≤ 63 ∧ l.getD j 0 ≤ fullI n) ∧ (x.length ≤ l.length) ∧ (0 ≤ u ∧ u ≤ 63) ∧ ((x.length = l.length) → K (.tup [.prm 2 (.ints .i64 x), .bool true]) []) ∧ ((¬ x.length = l.length) → K (.tup [.sl (some 3) (.ints .i64 (opL (repO (l.drop x.length) u.toNat x))), .bool (opB (repO (l.drop x.length) u.toNat x))]) [])) := id rfl
def G_spec_l28Find (N : Nat) : Gm := Gm.none.add 39 lend_spec_l28Find (spR_spec_l28Find N)
theorem gs_spec_l28Find_39 {N : Nat} : (G_spec_l28Find N).sp 39 = spR_spec_l28Find N ∧ (G_spec_l28Find N).lend 39 = lend_spec_l28Find := ⟨rfl, rfl⟩
set_option maxHeartbeats 1000000 in
set_option maxRecDepth 100000 in
theorem runs_spec_l28Find_1_st {N : Nat} (hok : (G_spec_l28Find N).ok Try.prog) (n : Int) (l x : List Int) (u : Int) (hp1 : 0 ≤ n ∧ n ≤ 6) (hp2 : l.length ≤ 6) (hp3 : ∀ j, j < l.length → 0 ≤ l.getD j 0 ∧ l.getD j 0 ≤ 63 ∧ l.getD j 0 ≤ fullI n) (hp4 : x.length ≤ l.length) (hp5 : 0 ≤ u ∧ u ≤ 63) (hc : x.length = l.length) (hm : l.length - x.length = N) : ARuns Try.prog 39 [.int .i64 n, .sl none (.ints .i64 l), .sl none (.ints .i64 x), .int .i64 u] [] (.tup [.prm 2 (.ints .i64 x), .bool true]) [] := by
  subst hm
  refine ARuns_bcL hok is_spec_l28Find (by simp) fun hl hlB => ?_
  simp only [kcode_at, kreg_at, bc_skip, bc_seq, bc_cond, bc_block, bc_exit, bc_ret, bc_region, lkX_cons, acond_tmp, aCase_t, aCase_f, aCase_b, afin_nil, cvE_some, resL, resV, resC, cv, cvL, pack, entryE, inPrm, Option.getD_some, acall_clo, add_sp, add_lend, kcall_nil, selOf, selC, selA, inArgs, inA, inL, okA, okL, okBx, okC, outA, outL, outU, outB, deep, deepL, boxIds, AV.bid, List.map_nil, List.map_cons, List.all_nil, List.all_cons, BEq.rfl, Bool.and_true, Bool.true_and, List.append_nil, aops_nil, aops_plain, aops_guard, kont_at, yes_at, no_at, aop_move, aop_assign, aop_pick, aop_alloc, aop_box, aop_build, aop_buildSlice, aop_load, aop_store, aop_nilCheck, aop_binOp, aop_unOp, aop_convert, aop_fieldAddr, aop_indexAddr, aop_slice, aop_extract, aop_makeSlice, aop_len, aop_max, aMax_int, slTy2, SC0, aop_append, aop_call, evalE, getE, putE, getB, setB, St.put, setsB, nth, AV.ofV, AV.blk, AV.bid, AV.one, SC.len, SC.get, List.length_nil, List.length_cons, Nat.reduceEqDiff, Nat.reduceAdd, ↓reduceIte, true_and, and_true, Bool.true_eq_false, Bool.false_eq_true, false_imp_iff, true_imp_iff, decide_eq_true_eq, Bool.not_eq_true', Bool.not_eq_false', decide_eq_false_iff_not, Option.isSome, List.nil_append, List.cons_append, aGuardO_some, aGuard_tt, aGuard_tf, aGuard_ft, aGuard_ff, aGuard_tb, aGuard_fb, aGuard_ts, aGuard_fs, aPick_b, aPick_t, aPick_f, aAlloc_one, aAlloc_flat, aBox_some, aBuild_flat, aInt_add, aBin_add, aInt_sub, aBin_sub, aInt_mul, aBin_mul, aInt_quo, aBin_quo, aInt_rem, aBin_rem, aInt_and, aBin_and, aInt_or, aBin_or, aInt_xor, aBin_xor, aInt_andNot, aBin_andNot, aInt_eql, aBin_eql, aInt_neq, aBin_neq, aInt_lss, aBin_lss, aInt_leq, aBin_leq, aInt_gtr, aBin_gtr, aInt_geq, aBin_geq, aBin_shl, aBin_shr, aShift_shl, aShift_shr, aBin_be1, aBin_bn1, aBin_be2, aBin_bn2, aBin_be3, aBin_bn3, aBin_be4, aBin_bn4, aBin_be5, aBin_bn5, aBin_be6, aBin_bn6, aBin_be7, aBin_bn7, aBin_be8, aBin_bn8, aBin_be9, aBin_bn9, aUn_b, aUn_t, aUn_f, aUn_i, aNil_ptr, aNil_pv, aConv_int, aField_ptr, aField_pv, aIdx_sl, aIdx_prm, aIdx_row, aIdx_drow, aMake_i, aMake_s, aExtr_tup, aLen_ref, aLen_nil, aLen_sl, aLen_prm, aLen_str, aBuildL_some, aBuildS_some, aLoad_1b, aLoad_1d, aLoad_fb, aLoad_fd, aLoad_1p, aLoad_fp, aLoad_ep, aLoad_rr, aLoad_rd, aStore_1, aStore_f, aStore_r, aApp_some, aAppend_nil, aAppend_ref, aSlice_h, aSlice_l, aSlice_lh, aop_slice3, aSlice3_r, aop_field, aFld_agg, aBinW_f, aBinW_t, aWrap_mul, aWrap_add, isW_tmp, isW_mulc, isW_addc, isW_sub, isW_quo, isW_rem, isW_and, isW_or, isW_xor, isW_andNot, isW_shl, isW_shr, isW_eql, isW_neq, isW_lss, isW_leq, isW_gtr, isW_geq, Int.reduceLT, aBinW_dF, aBinW_dT, bc_draw, kregD_at, aopsD_nil, aopsD_plain, aopsD_guard, kontD_at, contD_at, yesD_at, noD_at, splD_bool, splD_undef, splD_skip, splD_int, splD_tt, splD_ff, splD_str, splD_nil, splD_sl, splD_prm, splD_ref, splD_ptr, splD_rp, splD_ep, splD_pv, splD_agg, splD_tup, splD_clo, gD_tt, gD_tf, gD_ft, gD_ff, gD_ts, gD_fs, slotO_some, addTr_nil, addTr_cons, memQ_nil, memQ_cons, clash_nil, clash_cons, regC_none, regC_nil, regC_cons, regR_nil, regR_cons, Int.toNat_zero, Int.toNat_one, rng0, rng1, rng2, rng3, rng4, SC.take, SC.drop, mp_nil, acond_ct, acond_cf, mp_one0, mp_one1, mp_one2, mp_one3, kcall_one, liveB_row, liveB_box, idx, cont, still, dies, lend, lendA, lendDies, snocs, SC.snoc, SC.app, meet, AV.cells, fillA, List.getD_cons_zero, List.getD_cons_succ, List.set_cons_zero, List.set_cons_succ, List.length_singleton, Nat.le_refl, Nat.lt_irrefl, Nat.reduceLT, Nat.reduceLeDiff, Option.map_some, Option.map_none, List.flatMap_nil, List.flatMap_cons, Nat.zero_add, BEq.rfl, kcall_two, mp_two0, mp_two1, mp_two2, mp_two3, mp_two4, aop_makeFunc, plainA, Bool.true_and, sl3, ty3, un3, sl49, ty49, un49, sl71, ty71, un71, sl69, ty69, un69, sl5, ty5, un5, sl2, ty2, un2, sl21, ty21, un21, sl4, ty4, un4, sl9, un9, sl22, ty22, un22, sl31, ty31, un31, sl36, sl53, ty38, sl38, ty41, sl41, inR64, inRu64, inRu32, gs_spec_l28Find_39, atR_spec_l28Find, lend_spec_l28Find, Try.f39]
  refine ⟨fun h => ?_, fun h => absurd h (by omega)⟩
  ((repeat' apply And.intro) <;> first | exact afinL_of [] [] rfl rfl (by simp only [resL, resV, resC, getE, putE, getB, setB, lifts, liftOne, cellsOfB, List.length_cons, List.length_nil, List.nil_append, List.cons_append, Nat.reduceAdd, Nat.reduceEqDiff, ↓reduceIte, ty3, ty49, ty71, ty69, ty5, ty2, ty21, ty4, ty22, ty31, ty38, ty41]; rfl) (by simp [St.conv, St.bf, getE, putE, getB, cv, cvL, cvB, idx, still, pack, lifts, liftOne, cellsOfB, setB] <;> first | assumption | rfl | simp [SC.len]) (by simp [St.conv, St.bf, getE, putE, getB, cv, cvL, cvB, idx, still, pack, lifts, liftOne, cellsOfB, setB]) | rfl | omega | assumption | (show ordB _ _ _ = true; kernel_rfl))
set_option maxHeartbeats 1000000 in
set_option maxRecDepth 100000 in
theorem runs_spec_l28Find_2_st {N : Nat} (hok : (G_spec_l28Find N).ok Try.prog) (n : Int) (l x : List Int) (u : Int) (hp1 : 0 ≤ n ∧ n ≤ 6) (hp2 : l.length ≤ 6) (hp3 : ∀ j, j < l.length → 0 ≤ l.getD j 0 ∧ l.getD j 0 ≤ 63 ∧ l.getD j 0 ≤ fullI n) (hp4 : x.length ≤ l.length) (hp5 : 0 ≤ u ∧ u ≤ 63) (hc : ¬ x.length = l.length) (hm : l.length - x.length = N) : ARuns Try.prog 39 [.int .i64 n, .sl none (.ints .i64 l), .sl none (.ints .i64 x), .int .i64 u] [] (.tup [.sl (some 3) (.ints .i64 (opL (repO (l.drop x.length) u.toNat x))), .bool (opB (repO (l.drop x.length) u.toNat x))]) [] := by
  subst hm
  refine ARuns_bcL hok is_spec_l28Find (by simp) fun hl hlB => ?_
  simp only [kcode_at, kreg_at, bc_skip, bc_seq, bc_cond, bc_block, bc_exit, bc_ret, bc_region, lkX_cons, acond_tmp, aCase_t, aCase_f, aCase_b, afin_nil, cvE_some, resL, resV, resC, cv, cvL, pack, entryE, inPrm, Option.getD_some, acall_clo, add_sp, add_lend, kcall_nil, selOf, selC, selA, inArgs, inA, inL, okA, okL, okBx, okC, outA, outL, outU, outB, deep, deepL, boxIds, AV.bid, List.map_nil, List.map_cons, List.all_nil, List.all_cons, BEq.rfl, Bool.and_true, Bool.true_and, List.append_nil, aops_nil, aops_plain, aops_guard, kont_at, yes_at, no_at, aop_move, aop_assign, aop_pick, aop_alloc, aop_box, aop_build, aop_buildSlice, aop_load, aop_store, aop_nilCheck, aop_binOp, aop_unOp, aop_convert, aop_fieldAddr, aop_indexAddr, aop_slice, aop_extract, aop_makeSlice, aop_len, aop_max, aMax_int, slTy2, SC0, aop_append, aop_call, evalE, getE, putE, getB, setB, St.put, setsB, nth, AV.ofV, AV.blk, AV.bid, AV.one, SC.len, SC.get, List.length_nil, List.length_cons, Nat.reduceEqDiff, Nat.reduceAdd, ↓reduceIte, true_and, and_true, Bool.true_eq_false, Bool.false_eq_true, false_imp_iff, true_imp_iff, decide_eq_true_eq, Bool.not_eq_true', Bool.not_eq_false', decide_eq_false_iff_not, Option.isSome, List.nil_append, List.cons_append, aGuardO_some, aGuard_tt, aGuard_tf, aGuard_ft, aGuard_ff, aGuard_tb, aGuard_fb, aGuard_ts, aGuard_fs, aPick_b, aPick_t, aPick_f, aAlloc_one, aAlloc_flat, aBox_some, aBuild_flat, aInt_add, aBin_add, aInt_sub, aBin_sub, aInt_mul, aBin_mul, aInt_quo, aBin_quo, aInt_rem, aBin_rem, aInt_and, aBin_and, aInt_or, aBin_or, aInt_xor, aBin_xor, aInt_andNot, aBin_andNot, aInt_eql, aBin_eql, aInt_neq, aBin_neq, aInt_lss, aBin_lss, aInt_leq, aBin_leq, aInt_gtr, aBin_gtr, aInt_geq, aBin_geq, aBin_shl, aBin_shr, aShift_shl, aShift_shr, aBin_be1, aBin_bn1, aBin_be2, aBin_bn2, aBin_be3, aBin_bn3, aBin_be4, aBin_bn4, aBin_be5, aBin_bn5, aBin_be6, aBin_bn6, aBin_be7, aBin_bn7, aBin_be8, aBin_bn8, aBin_be9, aBin_bn9, aUn_b, aUn_t, aUn_f, aUn_i, aNil_ptr, aNil_pv, aConv_int, aField_ptr, aField_pv, aIdx_sl, aIdx_prm, aIdx_row, aIdx_drow, aMake_i, aMake_s, aExtr_tup, aLen_ref, aLen_nil, aLen_sl, aLen_prm, aLen_str, aBuildL_some, aBuildS_some, aLoad_1b, aLoad_1d, aLoad_fb, aLoad_fd, aLoad_1p, aLoad_fp, aLoad_ep, aLoad_rr, aLoad_rd, aStore_1, aStore_f, aStore_r, aApp_some, aAppend_nil, aAppend_ref, aSlice_h, aSlice_l, aSlice_lh, aop_slice3, aSlice3_r, aop_field, aFld_agg, aBinW_f, aBinW_t, aWrap_mul, aWrap_add, isW_tmp, isW_mulc, isW_addc, isW_sub, isW_quo, isW_rem, isW_and, isW_or, isW_xor, isW_andNot, isW_shl, isW_shr, isW_eql, isW_neq, isW_lss, isW_leq, isW_gtr, isW_geq, Int.reduceLT, aBinW_dF, aBinW_dT, bc_draw, kregD_at, aopsD_nil, aopsD_plain, aopsD_guard, kontD_at, contD_at, yesD_at, noD_at, splD_bool, splD_undef, splD_skip, splD_int, splD_tt, splD_ff, splD_str, splD_nil, splD_sl, splD_prm, splD_ref, splD_ptr, splD_rp, splD_ep, splD_pv, splD_agg, splD_tup, splD_clo, gD_tt, gD_tf, gD_ft, gD_ff, gD_ts, gD_fs, slotO_some, addTr_nil, addTr_cons, memQ_nil, memQ_cons, clash_nil, clash_cons, regC_none, regC_nil, regC_cons, regR_nil, regR_cons, Int.toNat_zero, Int.toNat_one, rng0, rng1, rng2, rng3, rng4, SC.take, SC.drop, mp_nil, acond_ct, acond_cf, mp_one0, mp_one1, mp_one2, mp_one3, kcall_one, liveB_row, liveB_box, idx, cont, still, dies, lend, lendA, lendDies, snocs, SC.snoc, SC.app, meet, AV.cells, fillA, List.getD_cons_zero, List.getD_cons_succ, List.set_cons_zero, List.set_cons_succ, List.length_singleton, Nat.le_refl, Nat.lt_irrefl, Nat.reduceLT, Nat.reduceLeDiff, Option.map_some, Option.map_none, List.flatMap_nil, List.flatMap_cons, Nat.zero_add, BEq.rfl, kcall_two, mp_two0, mp_two1, mp_two2, mp_two3, mp_two4, aop_makeFunc, plainA, Bool.true_and, sl3, ty3, un3, sl49, ty49, un49, sl71, ty71, un71, sl69, ty69, un69, sl5, ty5, un5, sl2, ty2, un2, sl21, ty21, un21, sl4, ty4, un4, sl9, un9, sl22, ty22, un22, sl31, ty31, un31, sl36, sl53, ty38, sl38, ty41, sl41, inR64, inRu64, inRu32, gs_spec_l28Find_39, atR_spec_l28Find, lend_spec_l28Find, Try.f39]
  obtain ⟨U, rfl⟩ := Int.eq_ofNat_of_zero_le hp5.1
  simp only [Int.toNat_natCast] at *
  refine ⟨fun h => absurd h (by omega), fun h => ?_⟩
  have hI : x.length < l.length := by omega
  have hs := hp3 x.length hI
  have hfl := full_bd6 hp1
  rw [drop_getD hI, repO_cons]
  generalize hg : l.getD x.length 0 = s at *
  obtain ⟨S, rfl⟩ := Int.eq_ofNat_of_zero_le hs.1
  obtain ⟨N, rfl⟩ := Int.eq_ofNat_of_zero_le hp1.1
  have hfree := freeF_le (s := (S : Int)) (u := U)
  have e2 : ((2 ^ N : Nat) : Int) = 2 ^ N := by simp
  have hSN : S < 2 ^ N := by unfold fullI at hs; simp only [Int.toNat_natCast] at hs; omega
  rw [elemsN (s := freeF S U) (n := N) (by simp only [Int.toNat_natCast] at hfree; omega) (by omega)]
  generalize hG : (fun e : Int => repO (l.drop (x.length + 1)) (U ||| 2 ^ e.toNat) (x ++ [e])) = G
  have hGe : ∀ e : Int, repO (l.drop (x.length + 1)) (U ||| 2 ^ e.toNat) (x ++ [e]) = G e := fun e => by rw [← hG]
  generalize hR : fsO G (elemsF (freeF (S : Int) U) N) = R
  refine bc_loop (fun e : Nat => e ≤ N ∧ fsO G (elemsF (freeF (S : Int) U) e) = none)
    (fun e => ⟨[(0, .int .i64 N), (1, .prm 1 (.ints .i64 l)), (2, .prm 2 (.ints .i64 x)), (3, .int .i64 U), (10, .int .i64 e)], []⟩) (fun e => N - e)
    [0, 1, 2, 3, 10] [] 0 rfl (by simp [St.conv, St.bf, getE, putE, getB, cv, cvL, cvB, idx, still, pack, lifts, liftOne, cellsOfB, setB]) ⟨by omega, rfl⟩ fun e ⟨he, hno⟩ => ?_
  simp only [kcode_at, kreg_at, bc_skip, bc_seq, bc_cond, bc_block, bc_exit, bc_ret, bc_region, lkX_cons, acond_tmp, aCase_t, aCase_f, aCase_b, afin_nil, cvE_some, resL, resV, resC, cv, cvL, pack, entryE, inPrm, Option.getD_some, acall_clo, add_sp, add_lend, kcall_nil, selOf, selC, selA, inArgs, inA, inL, okA, okL, okBx, okC, outA, outL, outU, outB, deep, deepL, boxIds, AV.bid, List.map_nil, List.map_cons, List.all_nil, List.all_cons, BEq.rfl, Bool.and_true, Bool.true_and, List.append_nil, aops_nil, aops_plain, aops_guard, kont_at, yes_at, no_at, aop_move, aop_assign, aop_pick, aop_alloc, aop_box, aop_build, aop_buildSlice, aop_load, aop_store, aop_nilCheck, aop_binOp, aop_unOp, aop_convert, aop_fieldAddr, aop_indexAddr, aop_slice, aop_extract, aop_makeSlice, aop_len, aop_max, aMax_int, slTy2, SC0, aop_append, aop_call, evalE, getE, putE, getB, setB, St.put, setsB, nth, AV.ofV, AV.blk, AV.bid, AV.one, SC.len, SC.get, List.length_nil, List.length_cons, Nat.reduceEqDiff, Nat.reduceAdd, ↓reduceIte, true_and, and_true, Bool.true_eq_false, Bool.false_eq_true, false_imp_iff, true_imp_iff, decide_eq_true_eq, Bool.not_eq_true', Bool.not_eq_false', decide_eq_false_iff_not, Option.isSome, List.nil_append, List.cons_append, aGuardO_some, aGuard_tt, aGuard_tf, aGuard_ft, aGuard_ff, aGuard_tb, aGuard_fb, aGuard_ts, aGuard_fs, aPick_b, aPick_t, aPick_f, aAlloc_one, aAlloc_flat, aBox_some, aBuild_flat, aInt_add, aBin_add, aInt_sub, aBin_sub, aInt_mul, aBin_mul, aInt_quo, aBin_quo, aInt_rem, aBin_rem, aInt_and, aBin_and, aInt_or, aBin_or, aInt_xor, aBin_xor, aInt_andNot, aBin_andNot, aInt_eql, aBin_eql, aInt_neq, aBin_neq, aInt_lss, aBin_lss, aInt_leq, aBin_leq, aInt_gtr, aBin_gtr, aInt_geq, aBin_geq, aBin_shl, aBin_shr, aShift_shl, aShift_shr, aBin_be1, aBin_bn1, aBin_be2, aBin_bn2, aBin_be3, aBin_bn3, aBin_be4, aBin_bn4, aBin_be5, aBin_bn5, aBin_be6, aBin_bn6, aBin_be7, aBin_bn7, aBin_be8, aBin_bn8, aBin_be9, aBin_bn9, aUn_b, aUn_t, aUn_f, aUn_i, aNil_ptr, aNil_pv, aConv_int, aField_ptr, aField_pv, aIdx_sl, aIdx_prm, aIdx_row, aIdx_drow, aMake_i, aMake_s, aExtr_tup, aLen_ref, aLen_nil, aLen_sl, aLen_prm, aLen_str, aBuildL_some, aBuildS_some, aLoad_1b, aLoad_1d, aLoad_fb, aLoad_fd, aLoad_1p, aLoad_fp, aLoad_ep, aLoad_rr, aLoad_rd, aStore_1, aStore_f, aStore_r, aApp_some, aAppend_nil, aAppend_ref, aSlice_h, aSlice_l, aSlice_lh, aop_slice3, aSlice3_r, aop_field, aFld_agg, aBinW_f, aBinW_t, aWrap_mul, aWrap_add, isW_tmp, isW_mulc, isW_addc, isW_sub, isW_quo, isW_rem, isW_and, isW_or, isW_xor, isW_andNot, isW_shl, isW_shr, isW_eql, isW_neq, isW_lss, isW_leq, isW_gtr, isW_geq, Int.reduceLT, aBinW_dF, aBinW_dT, bc_draw, kregD_at, aopsD_nil, aopsD_plain, aopsD_guard, kontD_at, contD_at, yesD_at, noD_at, splD_bool, splD_undef, splD_skip, splD_int, splD_tt, splD_ff, splD_str, splD_nil, splD_sl, splD_prm, splD_ref, splD_ptr, splD_rp, splD_ep, splD_pv, splD_agg, splD_tup, splD_clo, gD_tt, gD_tf, gD_ft, gD_ff, gD_ts, gD_fs, slotO_some, addTr_nil, addTr_cons, memQ_nil, memQ_cons, clash_nil, clash_cons, regC_none, regC_nil, regC_cons, regR_nil, regR_cons, Int.toNat_zero, Int.toNat_one, rng0, rng1, rng2, rng3, rng4, SC.take, SC.drop, mp_nil, acond_ct, acond_cf, mp_one0, mp_one1, mp_one2, mp_one3, kcall_one, liveB_row, liveB_box, idx, cont, still, dies, lend, lendA, lendDies, snocs, SC.snoc, SC.app, meet, AV.cells, fillA, List.getD_cons_zero, List.getD_cons_succ, List.set_cons_zero, List.set_cons_succ, List.length_singleton, Nat.le_refl, Nat.lt_irrefl, Nat.reduceLT, Nat.reduceLeDiff, Option.map_some, Option.map_none, List.flatMap_nil, List.flatMap_cons, Nat.zero_add, BEq.rfl, kcall_two, mp_two0, mp_two1, mp_two2, mp_two3, mp_two4, aop_makeFunc, plainA, Bool.true_and, sl3, ty3, un3, sl49, ty49, un49, sl71, ty71, un71, sl69, ty69, un69, sl5, ty5, un5, sl2, ty2, un2, sl21, ty21, un21, sl4, ty4, un4, sl9, un9, sl22, ty22, un22, sl31, ty31, un31, sl36, sl53, ty38, sl38, ty41, sl41, inR64, inRu64, inRu32, gs_spec_l28Find_39, atR_spec_l28Find, lend_spec_l28Find, Int.toNat_natCast, List.length_append, List.length_singleton, List.length_cons, List.length_nil]
  rw [hg]
  simp only [IntKind.bits]
  have e3 : (S : Int) / 2 ^ e = ((S / 2 ^ e : Nat) : Int) := by simp
  have e4 : (U : Int) / 2 ^ e = ((U / 2 ^ e : Nat) : Int) := by simp
  have hq1 : S / 2 ^ e ≤ S := Nat.div_le_self _ _
  have hq2 : U / 2 ^ e ≤ U := Nat.div_le_self _ _
  have hbit := bitAnd (s := S) (u := U) (e := e)
  have het := elemsF_t (s := freeF (S : Int) U) (n := e)
  have hef := elemsF_f (s := freeF (S : Int) U) (n := e)
  have hfr : freeF (S : Int) U / 2 ^ e % 2 = (S ^^^ (S &&& U)) / 2 ^ e % 2 := by simp [freeF]
  rw [hfr] at het hef
  rw [e3, e4]
  generalize S / 2 ^ e = q1 at *
  generalize U / 2 ^ e = q2 at *
  generalize (S ^^^ (S &&& U)) / 2 ^ e % 2 = q3 at *
  rw [band_one (x := (q1 : Int)) (by omega), band_one (x := (q2 : Int)) (by omega)]
  refine ⟨fun hlt => ?_, fun hge => ?_⟩
  · have hor := orBit_nat (u := U) (e := (e : Int)) (by omega) (by omega)
    have hpw := pow_le62 (e := (e : Int)) (by omega)
    simp only [Int.toNat_natCast] at hor hpw
    have hor2 := or_lt64 (u := U) (e := e) (by omega) (by omega)
    have hge := hGe e
    simp only [Int.toNat_natCast] at hge
    rw [hor, Int.toNat_natCast, hge]
    have hfd := fun y => fsO_found (g := G) (s := freeF (S : Int) U) (N := N) (e := e) (y := y) (by omega)
    rw [hR] at hfd
    refine ⟨by omega, by omega, fun b1 => ⟨by omega, fun b2 => ?_, fun b2 => ⟨by omega, klp_of (e + 1) (by simp [St.conv, St.bf, getE, putE, getB, cv, cvL, cvB, idx, still, pack, lifts, liftOne, cellsOfB, setB]) ⟨by omega, by rw [hef (by omega)]; exact hno⟩ (by omega)⟩⟩, fun b1 => ⟨by omega, klp_of (e + 1) (by simp [St.conv, St.bf, getE, putE, getB, cv, cvL, cvB, idx, still, pack, lifts, liftOne, cellsOfB, setB]) ⟨by omega, by rw [hef (by omega)]; exact hno⟩ (by omega)⟩⟩
    have hst := het (by omega)
    (repeat (first | (refine And.intro ?_ ?_; · omega) | (refine And.intro ?_ ?_; · ((repeat' apply And.intro) <;> (show ordB _ _ _ = true; kernel_rfl))) | fail))
    refine ⟨fun hq => ?_, fun hq => ?_⟩
    · have hy : G e = some (x ++ [(e : Int)]) := by rw [← hge, List.drop_of_length_le (by omega)]; rfl
      rw [hfd _ hst hno hy]
      simp only [opL, opB]
      ((repeat' apply And.intro) <;> first | exact afinL_of [] [] rfl rfl (by simp only [resL, resV, resC, getE, putE, getB, setB, lifts, liftOne, cellsOfB, List.length_cons, List.length_nil, List.nil_append, List.cons_append, Nat.reduceAdd, Nat.reduceEqDiff, ↓reduceIte, ty3, ty49, ty71, ty69, ty5, ty2, ty21, ty4, ty22, ty31, ty38, ty41]; rfl) (by simp [St.conv, St.bf, getE, putE, getB, cv, cvL, cvB, idx, still, pack, lifts, liftOne, cellsOfB, setB] <;> first | assumption | rfl | simp [SC.len]) (by simp [St.conv, St.bf, getE, putE, getB, cv, cvL, cvB, idx, still, pack, lifts, liftOne, cellsOfB, setB]) | rfl | omega | assumption | (show ordB _ _ _ = true; kernel_rfl))
    · (repeat (first | (refine And.intro ?_ ?_; · omega) | (refine And.intro ?_ ?_; · ((repeat' apply And.intro) <;> (show ordB _ _ _ = true; kernel_rfl))) | fail))
      cases hy : G e with
      | some y =>
        rw [hfd y hst hno hy]
        simp only [opL, opB]
        refine ⟨fun _ => ?_, fun h => (by cases h)⟩
        ((repeat' apply And.intro) <;> first | exact afinL_of [] [] rfl rfl (by simp only [resL, resV, resC, getE, putE, getB, setB, lifts, liftOne, cellsOfB, List.length_cons, List.length_nil, List.nil_append, List.cons_append, Nat.reduceAdd, Nat.reduceEqDiff, ↓reduceIte, ty3, ty49, ty71, ty69, ty5, ty2, ty21, ty4, ty22, ty31, ty38, ty41]; rfl) (by simp [St.conv, St.bf, getE, putE, getB, cv, cvL, cvB, idx, still, pack, lifts, liftOne, cellsOfB, setB] <;> first | assumption | rfl | simp [SC.len]) (by simp [St.conv, St.bf, getE, putE, getB, cv, cvL, cvB, idx, still, pack, lifts, liftOne, cellsOfB, setB]) | rfl | omega | assumption | (show ordB _ _ _ = true; kernel_rfl))
      | none =>
        refine ⟨fun h => (by cases h), fun _ => by ((repeat (first | (refine And.intro ?_ ?_; · omega) | (refine And.intro ?_ ?_; · ((repeat' apply And.intro) <;> (show ordB _ _ _ = true; kernel_rfl))) | fail)); exact klp_of (e + 1) (by simp [St.conv, St.bf, getE, putE, getB, cv, cvL, cvB, idx, still, pack, lifts, liftOne, cellsOfB, setB]) ⟨by omega, by rw [hst]; exact fsO_on hno hy⟩ (by omega))⟩
  · have : e = N := by omega
    subst this
    rw [hno] at hR
    subst hR
    simp only [opL, opB]
    ((repeat' apply And.intro) <;> first | exact afinL_of [] [] rfl rfl (by simp only [resL, resV, resC, getE, putE, getB, setB, lifts, liftOne, cellsOfB, List.length_cons, List.length_nil, List.nil_append, List.cons_append, Nat.reduceAdd, Nat.reduceEqDiff, ↓reduceIte, ty3, ty49, ty71, ty69, ty5, ty2, ty21, ty4, ty22, ty31, ty38, ty41]; rfl) (by simp [St.conv, St.bf, getE, putE, getB, cv, cvL, cvB, idx, still, pack, lifts, liftOne, cellsOfB, setB] <;> first | assumption | rfl | simp [SC.len]) (by simp [St.conv, St.bf, getE, putE, getB, cv, cvL, cvB, idx, still, pack, lifts, liftOne, cellsOfB, setB]) | rfl | omega | assumption | (show ordB _ _ _ = true; kernel_rfl))
theorem runs_spec_l28Find_aux : ∀ (N : Nat) (n : Int) (l x : List Int) (u : Int) (hp1 : 0 ≤ n ∧ n ≤ 6) (hp2 : l.length ≤ 6) (hp3 : ∀ j, j < l.length → 0 ≤ l.getD j 0 ∧ l.getD j 0 ≤ 63 ∧ l.getD j 0 ≤ fullI n) (hp4 : x.length ≤ l.length) (hp5 : 0 ≤ u ∧ u ≤ 63) (hm : l.length - x.length = N), ((x.length = l.length) → ARuns Try.prog 39 [.int .i64 n, .sl none (.ints .i64 l), .sl none (.ints .i64 x), .int .i64 u] [] (.tup [.prm 2 (.ints .i64 x), .bool true]) []) ∧ ((¬ x.length = l.length) → ARuns Try.prog 39 [.int .i64 n, .sl none (.ints .i64 l), .sl none (.ints .i64 x), .int .i64 u] [] (.tup [.sl (some 3) (.ints .i64 (opL (repO (l.drop x.length) u.toNat x))), .bool (opB (repO (l.drop x.length) u.toNat x))]) []) := by
  intro N
  induction N using Nat.strongRecOn with
  | _ N ih =>
  have hok : (G_spec_l28Find N).ok Try.prog := Gm.add_ok Gm.none_ok (by
    intro args giv K hk
    unfold spR_spec_l28Find at hk
    split at hk
    · obtain ⟨hlt, hp1, hp2, hp3, hp4, hp5, hk1, hk2⟩ := hk
      exact pk_em (fun hc => ⟨_, _, (ih _ hlt _ _ _ _ hp1 hp2 hp3 hp4 hp5 rfl).1 hc, hk1 hc⟩) (fun hc => ⟨_, _, (ih _ hlt _ _ _ _ hp1 hp2 hp3 hp4 hp5 rfl).2 hc, hk2 hc⟩)
    · exact hk.elim)
  intro n l x u hp1 hp2 hp3 hp4 hp5 hm
  exact ⟨fun hc => runs_spec_l28Find_1_st hok n l x u hp1 hp2 hp3 hp4 hp5 hc hm, fun hc => runs_spec_l28Find_2_st hok n l x u hp1 hp2 hp3 hp4 hp5 hc hm⟩
theorem runs_spec_l28Find_1 (n : Int) (l x : List Int) (u : Int) (hp1 : 0 ≤ n ∧ n ≤ 6) (hp2 : l.length ≤ 6) (hp3 : ∀ j, j < l.length → 0 ≤ l.getD j 0 ∧ l.getD j 0 ≤ 63 ∧ l.getD j 0 ≤ fullI n) (hp4 : x.length ≤ l.length) (hp5 : 0 ≤ u ∧ u ≤ 63) (hc : x.length = l.length) : ARuns Try.prog 39 [.int .i64 n, .sl none (.ints .i64 l), .sl none (.ints .i64 x), .int .i64 u] [] (.tup [.prm 2 (.ints .i64 x), .bool true]) [] := (runs_spec_l28Find_aux _ n l x u hp1 hp2 hp3 hp4 hp5 rfl).1 hc
theorem runs_spec_l28Find_2 (n : Int) (l x : List Int) (u : Int) (hp1 : 0 ≤ n ∧ n ≤ 6) (hp2 : l.length ≤ 6) (hp3 : ∀ j, j < l.length → 0 ≤ l.getD j 0 ∧ l.getD j 0 ≤ 63 ∧ l.getD j 0 ≤ fullI n) (hp4 : x.length ≤ l.length) (hp5 : 0 ≤ u ∧ u ≤ 63) (hc : ¬ x.length = l.length) : ARuns Try.prog 39 [.int .i64 n, .sl none (.ints .i64 l), .sl none (.ints .i64 x), .int .i64 u] [] (.tup [.sl (some 3) (.ints .i64 (opL (repO (l.drop x.length) u.toNat x))), .bool (opB (repO (l.drop x.length) u.toNat x))]) [] := (runs_spec_l28Find_aux _ n l x u hp1 hp2 hp3 hp4 hp5 rfl).2 hc
def sp_spec_l28Find : List AV → List Bx → (AV → List Bx → Prop) → Prop
  | [.int .i64 n, .sl none (.ints .i64 l), .sl none (.ints .i64 x), .int .i64 u], [], K => (0 ≤ n ∧ n ≤ 6) ∧ (l.length ≤ 6) ∧ (∀ j, j < l.length → 0 ≤ l.getD j 0 ∧ l.getD j 0 ≤ 63 ∧ l.getD j 0 ≤ fullI n) ∧ (x.length ≤ l.length) ∧ (0 ≤ u ∧ u ≤ 63) ∧ (x.length = l.length → K (.tup [.prm 2 (.ints .i64 x), .bool true]) []) ∧ (¬ x.length = l.length → K (.tup [.sl (some 3) (.ints .i64 (opL (repO (l.drop x.length) u.toNat x))), .bool (opB (repO (l.drop x.length) u.toNat x))]) [])
  | _, _, _ => False
theorem at_spec_l28Find {n : Int} {l x : List Int} {u : Int} {K : AV → List Bx → Prop} : sp_spec_l28Find [.int .i64 n, .sl none (.ints .i64 l), .sl none (.ints .i64 x), .int .i64 u] [] K = ((0 ≤ n ∧ n ≤ 6) ∧ (l.length ≤ 6) ∧ (∀ j, j < l.length → 0 ≤ l.getD j 0 ∧ l.getD j 0 ≤ 63 ∧ l.getD j 0 ≤ fullI n) ∧ (x.length ≤ l.length) ∧ (0 ≤ u ∧ u ≤ 63) ∧ (x.length = l.length → K (.tup [.prm 2 (.ints .i64 x), .bool true]) []) ∧ (¬ x.length = l.length → K (.tup [.sl (some 3) (.ints .i64 (opL (repO (l.drop x.length) u.toNat x))), .bool (opB (repO (l.drop x.length) u.toNat x))]) [])) := id rfl
theorem ok_spec_l28Find : ∀ args giv K, sp_spec_l28Find args giv K → ∃ r outs, ARuns Try.prog 39 args giv r outs ∧ K r outs := by
  intro args giv K hk
  unfold sp_spec_l28Find at hk
  split at hk
  · obtain ⟨hp1, hp2, hp3, hp4, hp5, hk1, hk2⟩ := hk
    exact pk_em (fun hc => ⟨_, _, runs_spec_l28Find_1 _ _ _ _ hp1 hp2 hp3 hp4 hp5 hc, hk1 hc⟩) (fun hc => ⟨_, _, runs_spec_l28Find_2 _ _ _ _ hp1 hp2 hp3 hp4 hp5 hc, hk2 hc⟩)
  · exact hk.elim
theorem is_spec_RepresentativesOf : FnIs Try.prog 14 22 [.tmp 4, .tmp 5] (Try.f14.body.getD .skip) := ⟨⟨Try.f14, by kernel_rfl, by kernel_rfl, by kernel_rfl, by kernel_rfl⟩, by kernel_rfl, by kernel_rfl⟩
def G_spec_RepresentativesOf : Gm := ((Gm.none.add 35 lend_spec_l28Lists sp_spec_l28Lists).add 39 lend_spec_l28Find sp_spec_l28Find)
theorem G_spec_RepresentativesOf_ok : G_spec_RepresentativesOf.ok Try.prog := (Gm.add_ok (Gm.add_ok Gm.none_ok ok_spec_l28Lists) ok_spec_l28Find)
theorem gs_spec_RepresentativesOf_35 : G_spec_RepresentativesOf.sp 35 = sp_spec_l28Lists ∧ G_spec_RepresentativesOf.lend 35 = lend_spec_l28Lists := ⟨rfl, rfl⟩
theorem gs_spec_RepresentativesOf_39 : G_spec_RepresentativesOf.sp 39 = sp_spec_l28Find ∧ G_spec_RepresentativesOf.lend 39 = lend_spec_l28Find := ⟨rfl, rfl⟩
set_option maxHeartbeats 1000000 in
set_option maxRecDepth 100000 in
theorem runs_spec_RepresentativesOf (n : Int) (l : List Int) : ARuns Try.prog 14 [.int .i64 n, .sl none (.ints .i64 l)] [] (.tup [.sl (some 3) (.ints .i64 (opL (rpO n l))), .bool (opB (rpO n l))]) [] := by
  refine ARuns_bcL G_spec_RepresentativesOf_ok is_spec_RepresentativesOf (by simp) fun hl hlB => ?_
  simp only [kcode_at, kreg_at, bc_skip, bc_seq, bc_cond, bc_block, bc_exit, bc_ret, bc_region, lkX_cons, acond_tmp, aCase_t, aCase_f, aCase_b, afin_nil, cvE_some, resL, resV, resC, cv, cvL, pack, entryE, inPrm, Option.getD_some, acall_clo, add_sp, add_lend, kcall_nil, selOf, selC, selA, inArgs, inA, inL, okA, okL, okBx, okC, outA, outL, outU, outB, deep, deepL, boxIds, AV.bid, List.map_nil, List.map_cons, List.all_nil, List.all_cons, BEq.rfl, Bool.and_true, Bool.true_and, List.append_nil, aops_nil, aops_plain, aops_guard, kont_at, yes_at, no_at, aop_move, aop_assign, aop_pick, aop_alloc, aop_box, aop_build, aop_buildSlice, aop_load, aop_store, aop_nilCheck, aop_binOp, aop_unOp, aop_convert, aop_fieldAddr, aop_indexAddr, aop_slice, aop_extract, aop_makeSlice, aop_len, aop_max, aMax_int, slTy2, SC0, aop_append, aop_call, evalE, getE, putE, getB, setB, St.put, setsB, nth, AV.ofV, AV.blk, AV.bid, AV.one, SC.len, SC.get, List.length_nil, List.length_cons, Nat.reduceEqDiff, Nat.reduceAdd, ↓reduceIte, true_and, and_true, Bool.true_eq_false, Bool.false_eq_true, false_imp_iff, true_imp_iff, decide_eq_true_eq, Bool.not_eq_true', Bool.not_eq_false', decide_eq_false_iff_not, Option.isSome, List.nil_append, List.cons_append, aGuardO_some, aGuard_tt, aGuard_tf, aGuard_ft, aGuard_ff, aGuard_tb, aGuard_fb, aGuard_ts, aGuard_fs, aPick_b, aPick_t, aPick_f, aAlloc_one, aAlloc_flat, aBox_some, aBuild_flat, aInt_add, aBin_add, aInt_sub, aBin_sub, aInt_mul, aBin_mul, aInt_quo, aBin_quo, aInt_rem, aBin_rem, aInt_and, aBin_and, aInt_or, aBin_or, aInt_xor, aBin_xor, aInt_andNot, aBin_andNot, aInt_eql, aBin_eql, aInt_neq, aBin_neq, aInt_lss, aBin_lss, aInt_leq, aBin_leq, aInt_gtr, aBin_gtr, aInt_geq, aBin_geq, aBin_shl, aBin_shr, aShift_shl, aShift_shr, aBin_be1, aBin_bn1, aBin_be2, aBin_bn2, aBin_be3, aBin_bn3, aBin_be4, aBin_bn4, aBin_be5, aBin_bn5, aBin_be6, aBin_bn6, aBin_be7, aBin_bn7, aBin_be8, aBin_bn8, aBin_be9, aBin_bn9, aUn_b, aUn_t, aUn_f, aUn_i, aNil_ptr, aNil_pv, aConv_int, aField_ptr, aField_pv, aIdx_sl, aIdx_prm, aIdx_row, aIdx_drow, aMake_i, aMake_s, aExtr_tup, aLen_ref, aLen_nil, aLen_sl, aLen_prm, aLen_str, aBuildL_some, aBuildS_some, aLoad_1b, aLoad_1d, aLoad_fb, aLoad_fd, aLoad_1p, aLoad_fp, aLoad_ep, aLoad_rr, aLoad_rd, aStore_1, aStore_f, aStore_r, aApp_some, aAppend_nil, aAppend_ref, aSlice_h, aSlice_l, aSlice_lh, aop_slice3, aSlice3_r, aop_field, aFld_agg, aBinW_f, aBinW_t, aWrap_mul, aWrap_add, isW_tmp, isW_mulc, isW_addc, isW_sub, isW_quo, isW_rem, isW_and, isW_or, isW_xor, isW_andNot, isW_shl, isW_shr, isW_eql, isW_neq, isW_lss, isW_leq, isW_gtr, isW_geq, Int.reduceLT, aBinW_dF, aBinW_dT, bc_draw, kregD_at, aopsD_nil, aopsD_plain, aopsD_guard, kontD_at, contD_at, yesD_at, noD_at, splD_bool, splD_undef, splD_skip, splD_int, splD_tt, splD_ff, splD_str, splD_nil, splD_sl, splD_prm, splD_ref, splD_ptr, splD_rp, splD_ep, splD_pv, splD_agg, splD_tup, splD_clo, gD_tt, gD_tf, gD_ft, gD_ff, gD_ts, gD_fs, slotO_some, addTr_nil, addTr_cons, memQ_nil, memQ_cons, clash_nil, clash_cons, regC_none, regC_nil, regC_cons, regR_nil, regR_cons, Int.toNat_zero, Int.toNat_one, rng0, rng1, rng2, rng3, rng4, SC.take, SC.drop, mp_nil, acond_ct, acond_cf, mp_one0, mp_one1, mp_one2, mp_one3, kcall_one, liveB_row, liveB_box, idx, cont, still, dies, lend, lendA, lendDies, snocs, SC.snoc, SC.app, meet, AV.cells, fillA, List.getD_cons_zero, List.getD_cons_succ, List.set_cons_zero, List.set_cons_succ, List.length_singleton, Nat.le_refl, Nat.lt_irrefl, Nat.reduceLT, Nat.reduceLeDiff, Option.map_some, Option.map_none, List.flatMap_nil, List.flatMap_cons, Nat.zero_add, BEq.rfl, kcall_two, mp_two0, mp_two1, mp_two2, mp_two3, mp_two4, aop_makeFunc, plainA, Bool.true_and, sl3, ty3, un3, sl49, ty49, un49, sl71, ty71, un71, sl69, ty69, un69, sl5, ty5, un5, sl2, ty2, un2, sl21, ty21, un21, sl4, ty4, un4, sl9, un9, sl22, ty22, un22, sl31, ty31, un31, sl36, sl53, ty38, sl38, ty41, sl41, inR64, inRu64, inRu32, gs_spec_RepresentativesOf_35, at_spec_l28Lists, lend_spec_l28Lists, gs_spec_RepresentativesOf_39, at_spec_l28Find, lend_spec_l28Find, Try.f14]
  refine ⟨fun h => ?_, fun h => ?_⟩
  · have e : rpO n l = none := by simp [rpO, h]
    rw [e]
    simp only [opL, opB]
    ((repeat' apply And.intro) <;> first | exact afinL_of [] [] rfl rfl (by simp only [resL, resV, resC, getE, putE, getB, setB, lifts, liftOne, cellsOfB, List.length_cons, List.length_nil, List.nil_append, List.cons_append, Nat.reduceAdd, Nat.reduceEqDiff, ↓reduceIte, ty3, ty49, ty71, ty69, ty5, ty2, ty21, ty4, ty22, ty31, ty38, ty41]; rfl) (by simp [St.conv, St.bf, getE, putE, getB, cv, cvL, cvB, idx, still, pack, lifts, liftOne, cellsOfB, setB] <;> first | assumption | rfl | simp [SC.len]) (by simp [St.conv, St.bf, getE, putE, getB, cv, cvL, cvB, idx, still, pack, lifts, liftOne, cellsOfB, setB]) | rfl | omega | assumption | (show ordB _ _ _ = true; kernel_rfl))
  obtain ⟨h6, hs⟩ := fewB_iff.1 h
  have hb := setsOk_bd hs
  have e : rpO n l = repO l 0 [] := by simp [rpO, h]
  rw [e]
  rw [List.drop_zero]
  refine ⟨hb.1, h6, hb.2, by omega, by omega, fun hz => ?_, fun hz => ?_⟩
  · have el : l = [] := List.length_eq_zero_iff.1 hz.symm
    subst el
    simp only [repO, opL, opB]
    ((repeat' apply And.intro) <;> first | exact afinL_of [] [] rfl rfl (by simp only [resL, resV, resC, getE, putE, getB, setB, lifts, liftOne, cellsOfB, List.length_cons, List.length_nil, List.nil_append, List.cons_append, Nat.reduceAdd, Nat.reduceEqDiff, ↓reduceIte, ty3, ty49, ty71, ty69, ty5, ty2, ty21, ty4, ty22, ty31, ty38, ty41]; rfl) (by simp [St.conv, St.bf, getE, putE, getB, cv, cvL, cvB, idx, still, pack, lifts, liftOne, cellsOfB, setB] <;> first | assumption | rfl | simp [SC.len]) (by simp [St.conv, St.bf, getE, putE, getB, cv, cvL, cvB, idx, still, pack, lifts, liftOne, cellsOfB, setB]) | rfl | omega | assumption | (show ordB _ _ _ = true; kernel_rfl))
  · ((repeat' apply And.intro) <;> first | exact afinL_of [] [] rfl rfl (by simp only [resL, resV, resC, getE, putE, getB, setB, lifts, liftOne, cellsOfB, List.length_cons, List.length_nil, List.nil_append, List.cons_append, Nat.reduceAdd, Nat.reduceEqDiff, ↓reduceIte, ty3, ty49, ty71, ty69, ty5, ty2, ty21, ty4, ty22, ty31, ty38, ty41]; rfl) (by simp [St.conv, St.bf, getE, putE, getB, cv, cvL, cvB, idx, still, pack, lifts, liftOne, cellsOfB, setB] <;> first | assumption | rfl | simp [SC.len]) (by simp [St.conv, St.bf, getE, putE, getB, cv, cvL, cvB, idx, still, pack, lifts, liftOne, cellsOfB, setB]) | rfl | omega | assumption | (show ordB _ _ _ = true; kernel_rfl))
def lend_spec_RepresentativesOf : List Nat := []
def sp_spec_RepresentativesOf : List AV → List Bx → (AV → List Bx → Prop) → Prop
  | [.int .i64 n, .sl none (.ints .i64 l)], [], K => K (.tup [.sl (some 3) (.ints .i64 (opL (rpO n l))), .bool (opB (rpO n l))]) []
  | _, _, _ => False
theorem at_spec_RepresentativesOf {n : Int} {l : List Int} {K : AV → List Bx → Prop} : sp_spec_RepresentativesOf [.int .i64 n, .sl none (.ints .i64 l)] [] K = (K (.tup [.sl (some 3) (.ints .i64 (opL (rpO n l))), .bool (opB (rpO n l))]) []) := id rfl
theorem ok_spec_RepresentativesOf : ∀ args giv K, sp_spec_RepresentativesOf args giv K → ∃ r outs, ARuns Try.prog 14 args giv r outs ∧ K r outs := by
  intro args giv K hk
  unfold sp_spec_RepresentativesOf at hk
  split at hk
  · exact ⟨_, _, runs_spec_RepresentativesOf _ _ , hk⟩
  · exact hk.elim
theorem is_impl_within : FnIs Try.prog 43 15 [.tmp 6] (Try.f43.body.getD .skip) := ⟨⟨Try.f43, by kernel_rfl, by kernel_rfl, by kernel_rfl, by kernel_rfl⟩, by kernel_rfl, by kernel_rfl⟩
def G_impl_within : Gm := Gm.none
theorem G_impl_within_ok : G_impl_within.ok Try.prog := Gm.none_ok
set_option maxHeartbeats 1000000 in
set_option maxRecDepth 100000 in
theorem runs_impl_within (n l m : Int) : ARuns Try.prog 43 [.int .i64 n, .int .i64 l, .int .i64 m] [] (.bool (inB n l m)) [] := by
  refine ARuns_bc G_impl_within_ok is_impl_within (by simp) fun hl hlB => ?_
  simp only [kcode_at, kreg_at, bc_skip, bc_seq, bc_cond, bc_block, bc_exit, bc_ret, bc_region, lkX_cons, acond_tmp, aCase_t, aCase_f, aCase_b, afin_nil, cvE_some, resL, resV, resC, cv, cvL, pack, entryE, inPrm, Option.getD_some, acall_clo, add_sp, add_lend, kcall_nil, selOf, selC, selA, inArgs, inA, inL, okA, okL, okBx, okC, outA, outL, outU, outB, deep, deepL, boxIds, AV.bid, List.map_nil, List.map_cons, List.all_nil, List.all_cons, BEq.rfl, Bool.and_true, Bool.true_and, List.append_nil, aops_nil, aops_plain, aops_guard, kont_at, yes_at, no_at, aop_move, aop_assign, aop_pick, aop_alloc, aop_box, aop_build, aop_buildSlice, aop_load, aop_store, aop_nilCheck, aop_binOp, aop_unOp, aop_convert, aop_fieldAddr, aop_indexAddr, aop_slice, aop_extract, aop_makeSlice, aop_len, aop_max, aMax_int, slTy2, SC0, aop_append, aop_call, evalE, getE, putE, getB, setB, St.put, setsB, nth, AV.ofV, AV.blk, AV.bid, AV.one, SC.len, SC.get, List.length_nil, List.length_cons, Nat.reduceEqDiff, Nat.reduceAdd, ↓reduceIte, true_and, and_true, Bool.true_eq_false, Bool.false_eq_true, false_imp_iff, true_imp_iff, decide_eq_true_eq, Bool.not_eq_true', Bool.not_eq_false', decide_eq_false_iff_not, Option.isSome, List.nil_append, List.cons_append, aGuardO_some, aGuard_tt, aGuard_tf, aGuard_ft, aGuard_ff, aGuard_tb, aGuard_fb, aGuard_ts, aGuard_fs, aPick_b, aPick_t, aPick_f, aAlloc_one, aAlloc_flat, aBox_some, aBuild_flat, aInt_add, aBin_add, aInt_sub, aBin_sub, aInt_mul, aBin_mul, aInt_quo, aBin_quo, aInt_rem, aBin_rem, aInt_and, aBin_and, aInt_or, aBin_or, aInt_xor, aBin_xor, aInt_andNot, aBin_andNot, aInt_eql, aBin_eql, aInt_neq, aBin_neq, aInt_lss, aBin_lss, aInt_leq, aBin_leq, aInt_gtr, aBin_gtr, aInt_geq, aBin_geq, aBin_shl, aBin_shr, aShift_shl, aShift_shr, aBin_be1, aBin_bn1, aBin_be2, aBin_bn2, aBin_be3, aBin_bn3, aBin_be4, aBin_bn4, aBin_be5, aBin_bn5, aBin_be6, aBin_bn6, aBin_be7, aBin_bn7, aBin_be8, aBin_bn8, aBin_be9, aBin_bn9, aUn_b, aUn_t, aUn_f, aUn_i, aNil_ptr, aNil_pv, aConv_int, aField_ptr, aField_pv, aIdx_sl, aIdx_prm, aIdx_row, aIdx_drow, aMake_i, aMake_s, aExtr_tup, aLen_ref, aLen_nil, aLen_sl, aLen_prm, aLen_str, aBuildL_some, aBuildS_some, aLoad_1b, aLoad_1d, aLoad_fb, aLoad_fd, aLoad_1p, aLoad_fp, aLoad_ep, aLoad_rr, aLoad_rd, aStore_1, aStore_f, aStore_r, aApp_some, aAppend_nil, aAppend_ref, aSlice_h, aSlice_l, aSlice_lh, aop_slice3, aSlice3_r, aop_field, aFld_agg, aBinW_f, aBinW_t, aWrap_mul, aWrap_add, isW_tmp, isW_mulc, isW_addc, isW_sub, isW_quo, isW_rem, isW_and, isW_or, isW_xor, isW_andNot, isW_shl, isW_shr, isW_eql, isW_neq, isW_lss, isW_leq, isW_gtr, isW_geq, Int.reduceLT, aBinW_dF, aBinW_dT, bc_draw, kregD_at, aopsD_nil, aopsD_plain, aopsD_guard, kontD_at, contD_at, yesD_at, noD_at, splD_bool, splD_undef, splD_skip, splD_int, splD_tt, splD_ff, splD_str, splD_nil, splD_sl, splD_prm, splD_ref, splD_ptr, splD_rp, splD_ep, splD_pv, splD_agg, splD_tup, splD_clo, gD_tt, gD_tf, gD_ft, gD_ff, gD_ts, gD_fs, slotO_some, addTr_nil, addTr_cons, memQ_nil, memQ_cons, clash_nil, clash_cons, regC_none, regC_nil, regC_cons, regR_nil, regR_cons, Int.toNat_zero, Int.toNat_one, rng0, rng1, rng2, rng3, rng4, SC.take, SC.drop, mp_nil, acond_ct, acond_cf, mp_one0, mp_one1, mp_one2, mp_one3, kcall_one, liveB_row, liveB_box, idx, cont, still, dies, lend, lendA, lendDies, snocs, SC.snoc, SC.app, meet, AV.cells, fillA, List.getD_cons_zero, List.getD_cons_succ, List.set_cons_zero, List.set_cons_succ, List.length_singleton, Nat.le_refl, Nat.lt_irrefl, Nat.reduceLT, Nat.reduceLeDiff, Option.map_some, Option.map_none, List.flatMap_nil, List.flatMap_cons, Nat.zero_add, BEq.rfl, kcall_two, mp_two0, mp_two1, mp_two2, mp_two3, mp_two4, aop_makeFunc, plainA, Bool.true_and, sl3, ty3, un3, sl49, ty49, un49, sl71, ty71, un71, sl69, ty69, un69, sl5, ty5, un5, sl2, ty2, un2, sl21, ty21, un21, sl4, ty4, un4, sl9, un9, sl22, ty22, un22, sl31, ty31, un31, sl36, sl53, ty38, sl38, ty41, sl41, inR64, inRu64, inRu32, Try.f43]
  refine ⟨fun h => ?_, fun h => ?_⟩ <;> simp [h, inB]
def lend_impl_within : List Nat := []
def sp_impl_within : List AV → List Bx → (AV → List Bx → Prop) → Prop
  | [.int .i64 n, .int .i64 l, .int .i64 m], [], K => K (.bool (inB n l m)) []
  | _, _, _ => False
theorem at_impl_within {n l m : Int} {K : AV → List Bx → Prop} : sp_impl_within [.int .i64 n, .int .i64 l, .int .i64 m] [] K = (K (.bool (inB n l m)) []) := id rfl
theorem ok_impl_within : ∀ args giv K, sp_impl_within args giv K → ∃ r outs, ARuns Try.prog 43 args giv r outs ∧ K r outs := by
  intro args giv K hk
  unfold sp_impl_within at hk
  split at hk
  · exact ⟨_, _, runs_impl_within _ _ _ , hk⟩
  · exact hk.elim
theorem is_impl_isSetOf : FnIs Try.prog 64 14 [.tmp 4] (Try.f64.body.getD .skip) := ⟨⟨Try.f64, by kernel_rfl, by kernel_rfl, by kernel_rfl, by kernel_rfl⟩, by kernel_rfl, by kernel_rfl⟩
def G_impl_isSetOf : Gm := Gm.none
theorem G_impl_isSetOf_ok : G_impl_isSetOf.ok Try.prog := Gm.none_ok
set_option maxHeartbeats 1000000 in
set_option maxRecDepth 100000 in
theorem runs_impl_isSetOf (n s : Int) (hp1 : 0 ≤ n ∧ n ≤ 62) : ARuns Try.prog 64 [.int .i64 n, .int .i64 s] [] (.bool (inS n s)) [] := by
  refine ARuns_bc G_impl_isSetOf_ok is_impl_isSetOf (by simp) fun hl hlB => ?_
  simp only [kcode_at, kreg_at, bc_skip, bc_seq, bc_cond, bc_block, bc_exit, bc_ret, bc_region, lkX_cons, acond_tmp, aCase_t, aCase_f, aCase_b, afin_nil, cvE_some, resL, resV, resC, cv, cvL, pack, entryE, inPrm, Option.getD_some, acall_clo, add_sp, add_lend, kcall_nil, selOf, selC, selA, inArgs, inA, inL, okA, okL, okBx, okC, outA, outL, outU, outB, deep, deepL, boxIds, AV.bid, List.map_nil, List.map_cons, List.all_nil, List.all_cons, BEq.rfl, Bool.and_true, Bool.true_and, List.append_nil, aops_nil, aops_plain, aops_guard, kont_at, yes_at, no_at, aop_move, aop_assign, aop_pick, aop_alloc, aop_box, aop_build, aop_buildSlice, aop_load, aop_store, aop_nilCheck, aop_binOp, aop_unOp, aop_convert, aop_fieldAddr, aop_indexAddr, aop_slice, aop_extract, aop_makeSlice, aop_len, aop_max, aMax_int, slTy2, SC0, aop_append, aop_call, evalE, getE, putE, getB, setB, St.put, setsB, nth, AV.ofV, AV.blk, AV.bid, AV.one, SC.len, SC.get, List.length_nil, List.length_cons, Nat.reduceEqDiff, Nat.reduceAdd, ↓reduceIte, true_and, and_true, Bool.true_eq_false, Bool.false_eq_true, false_imp_iff, true_imp_iff, decide_eq_true_eq, Bool.not_eq_true', Bool.not_eq_false', decide_eq_false_iff_not, Option.isSome, List.nil_append, List.cons_append, aGuardO_some, aGuard_tt, aGuard_tf, aGuard_ft, aGuard_ff, aGuard_tb, aGuard_fb, aGuard_ts, aGuard_fs, aPick_b, aPick_t, aPick_f, aAlloc_one, aAlloc_flat, aBox_some, aBuild_flat, aInt_add, aBin_add, aInt_sub, aBin_sub, aInt_mul, aBin_mul, aInt_quo, aBin_quo, aInt_rem, aBin_rem, aInt_and, aBin_and, aInt_or, aBin_or, aInt_xor, aBin_xor, aInt_andNot, aBin_andNot, aInt_eql, aBin_eql, aInt_neq, aBin_neq, aInt_lss, aBin_lss, aInt_leq, aBin_leq, aInt_gtr, aBin_gtr, aInt_geq, aBin_geq, aBin_shl, aBin_shr, aShift_shl, aShift_shr, aBin_be1, aBin_bn1, aBin_be2, aBin_bn2, aBin_be3, aBin_bn3, aBin_be4, aBin_bn4, aBin_be5, aBin_bn5, aBin_be6, aBin_bn6, aBin_be7, aBin_bn7, aBin_be8, aBin_bn8, aBin_be9, aBin_bn9, aUn_b, aUn_t, aUn_f, aUn_i, aNil_ptr, aNil_pv, aConv_int, aField_ptr, aField_pv, aIdx_sl, aIdx_prm, aIdx_row, aIdx_drow, aMake_i, aMake_s, aExtr_tup, aLen_ref, aLen_nil, aLen_sl, aLen_prm, aLen_str, aBuildL_some, aBuildS_some, aLoad_1b, aLoad_1d, aLoad_fb, aLoad_fd, aLoad_1p, aLoad_fp, aLoad_ep, aLoad_rr, aLoad_rd, aStore_1, aStore_f, aStore_r, aApp_some, aAppend_nil, aAppend_ref, aSlice_h, aSlice_l, aSlice_lh, aop_slice3, aSlice3_r, aop_field, aFld_agg, aBinW_f, aBinW_t, aWrap_mul, aWrap_add, isW_tmp, isW_mulc, isW_addc, isW_sub, isW_quo, isW_rem, isW_and, isW_or, isW_xor, isW_andNot, isW_shl, isW_shr, isW_eql, isW_neq, isW_lss, isW_leq, isW_gtr, isW_geq, Int.reduceLT, aBinW_dF, aBinW_dT, bc_draw, kregD_at, aopsD_nil, aopsD_plain, aopsD_guard, kontD_at, contD_at, yesD_at, noD_at, splD_bool, splD_undef, splD_skip, splD_int, splD_tt, splD_ff, splD_str, splD_nil, splD_sl, splD_prm, splD_ref, splD_ptr, splD_rp, splD_ep, splD_pv, splD_agg, splD_tup, splD_clo, gD_tt, gD_tf, gD_ft, gD_ff, gD_ts, gD_fs, slotO_some, addTr_nil, addTr_cons, memQ_nil, memQ_cons, clash_nil, clash_cons, regC_none, regC_nil, regC_cons, regR_nil, regR_cons, Int.toNat_zero, Int.toNat_one, rng0, rng1, rng2, rng3, rng4, SC.take, SC.drop, mp_nil, acond_ct, acond_cf, mp_one0, mp_one1, mp_one2, mp_one3, kcall_one, liveB_row, liveB_box, idx, cont, still, dies, lend, lendA, lendDies, snocs, SC.snoc, SC.app, meet, AV.cells, fillA, List.getD_cons_zero, List.getD_cons_succ, List.set_cons_zero, List.set_cons_succ, List.length_singleton, Nat.le_refl, Nat.lt_irrefl, Nat.reduceLT, Nat.reduceLeDiff, Option.map_some, Option.map_none, List.flatMap_nil, List.flatMap_cons, Nat.zero_add, BEq.rfl, kcall_two, mp_two0, mp_two1, mp_two2, mp_two3, mp_two4, aop_makeFunc, plainA, Bool.true_and, sl3, ty3, un3, sl49, ty49, un49, sl71, ty71, un71, sl69, ty69, un69, sl5, ty5, un5, sl2, ty2, un2, sl21, ty21, un21, sl4, ty4, un4, sl9, un9, sl22, ty22, un22, sl31, ty31, un31, sl36, sl53, ty38, sl38, ty41, sl41, inR64, inRu64, inRu32, Try.f64]
  have hb : (2 : Int) ^ n.toNat ≤ 2 ^ 62 := by
    have : (2 : Nat) ^ n.toNat ≤ 2 ^ 62 := Nat.pow_le_pow_right (by omega) (by omega)
    have h := Int.ofNat_le.2 this
    simpa using h
  have h0 : (0 : Int) ≤ 2 ^ n.toNat := Int.pow_nonneg (by omega)
  have e : inS n s = (decide (0 ≤ s) && decide (s ≤ 2 ^ n.toNat - 1)) := rfl
  rw [e]
  simp only [IntKind.bits]
  generalize (2 : Int) ^ n.toNat = q at *
  refine ⟨fun h => ⟨by omega, by omega, ?_⟩, fun h => ?_⟩
  · congr 1; rw [Bool.eq_iff_iff]; simp; omega
  · congr 1; rw [Bool.eq_iff_iff]; simp; omega
def lend_impl_isSetOf : List Nat := []
def sp_impl_isSetOf : List AV → List Bx → (AV → List Bx → Prop) → Prop
  | [.int .i64 n, .int .i64 s], [], K => (0 ≤ n ∧ n ≤ 62) ∧ K (.bool (inS n s)) []
  | _, _, _ => False
theorem at_impl_isSetOf {n s : Int} {K : AV → List Bx → Prop} : sp_impl_isSetOf [.int .i64 n, .int .i64 s] [] K = ((0 ≤ n ∧ n ≤ 62) ∧ K (.bool (inS n s)) []) := id rfl
theorem ok_impl_isSetOf : ∀ args giv K, sp_impl_isSetOf args giv K → ∃ r outs, ARuns Try.prog 64 args giv r outs ∧ K r outs := by
  intro args giv K hk
  unfold sp_impl_isSetOf at hk
  split at hk
  · obtain ⟨hp1, hk⟩ := hk; exact ⟨_, _, runs_impl_isSetOf _ _ hp1, hk⟩
  · exact hk.elim
theorem is_impl_areSets : FnIs Try.prog 58 21 [.tmp 4] (Try.f58.body.getD .skip) := ⟨⟨Try.f58, by kernel_rfl, by kernel_rfl, by kernel_rfl, by kernel_rfl⟩, by kernel_rfl, by kernel_rfl⟩
def G_impl_areSets : Gm := ((Gm.none.add 43 lend_impl_within sp_impl_within).add 64 lend_impl_isSetOf sp_impl_isSetOf)
theorem G_impl_areSets_ok : G_impl_areSets.ok Try.prog := (Gm.add_ok (Gm.add_ok Gm.none_ok ok_impl_within) ok_impl_isSetOf)
theorem gs_impl_areSets_43 : G_impl_areSets.sp 43 = sp_impl_within ∧ G_impl_areSets.lend 43 = lend_impl_within := ⟨rfl, rfl⟩
theorem gs_impl_areSets_64 : G_impl_areSets.sp 64 = sp_impl_isSetOf ∧ G_impl_areSets.lend 64 = lend_impl_isSetOf := ⟨rfl, rfl⟩
set_option maxHeartbeats 1000000 in
set_option maxRecDepth 100000 in
theorem runs_impl_areSets (n : Int) (xs : List Int) : ARuns Try.prog 58 [.int .i64 n, .sl none (.ints .i64 xs)] [] (.bool (setsOk n xs)) [] := by
  refine ARuns_bc G_impl_areSets_ok is_impl_areSets (by simp) fun hl hlB => ?_
  simp only [kcode_at, kreg_at, bc_skip, bc_seq, bc_cond, bc_block, bc_exit, bc_ret, bc_region, lkX_cons, acond_tmp, aCase_t, aCase_f, aCase_b, afin_nil, cvE_some, resL, resV, resC, cv, cvL, pack, entryE, inPrm, Option.getD_some, acall_clo, add_sp, add_lend, kcall_nil, selOf, selC, selA, inArgs, inA, inL, okA, okL, okBx, okC, outA, outL, outU, outB, deep, deepL, boxIds, AV.bid, List.map_nil, List.map_cons, List.all_nil, List.all_cons, BEq.rfl, Bool.and_true, Bool.true_and, List.append_nil, aops_nil, aops_plain, aops_guard, kont_at, yes_at, no_at, aop_move, aop_assign, aop_pick, aop_alloc, aop_box, aop_build, aop_buildSlice, aop_load, aop_store, aop_nilCheck, aop_binOp, aop_unOp, aop_convert, aop_fieldAddr, aop_indexAddr, aop_slice, aop_extract, aop_makeSlice, aop_len, aop_max, aMax_int, slTy2, SC0, aop_append, aop_call, evalE, getE, putE, getB, setB, St.put, setsB, nth, AV.ofV, AV.blk, AV.bid, AV.one, SC.len, SC.get, List.length_nil, List.length_cons, Nat.reduceEqDiff, Nat.reduceAdd, ↓reduceIte, true_and, and_true, Bool.true_eq_false, Bool.false_eq_true, false_imp_iff, true_imp_iff, decide_eq_true_eq, Bool.not_eq_true', Bool.not_eq_false', decide_eq_false_iff_not, Option.isSome, List.nil_append, List.cons_append, aGuardO_some, aGuard_tt, aGuard_tf, aGuard_ft, aGuard_ff, aGuard_tb, aGuard_fb, aGuard_ts, aGuard_fs, aPick_b, aPick_t, aPick_f, aAlloc_one, aAlloc_flat, aBox_some, aBuild_flat, aInt_add, aBin_add, aInt_sub, aBin_sub, aInt_mul, aBin_mul, aInt_quo, aBin_quo, aInt_rem, aBin_rem, aInt_and, aBin_and, aInt_or, aBin_or, aInt_xor, aBin_xor, aInt_andNot, aBin_andNot, aInt_eql, aBin_eql, aInt_neq, aBin_neq, aInt_lss, aBin_lss, aInt_leq, aBin_leq, aInt_gtr, aBin_gtr, aInt_geq, aBin_geq, aBin_shl, aBin_shr, aShift_shl, aShift_shr, aBin_be1, aBin_bn1, aBin_be2, aBin_bn2, aBin_be3, aBin_bn3, aBin_be4, aBin_bn4, aBin_be5, aBin_bn5, aBin_be6, aBin_bn6, aBin_be7, aBin_bn7, aBin_be8, aBin_bn8, aBin_be9, aBin_bn9, aUn_b, aUn_t, aUn_f, aUn_i, aNil_ptr, aNil_pv, aConv_int, aField_ptr, aField_pv, aIdx_sl, aIdx_prm, aIdx_row, aIdx_drow, aMake_i, aMake_s, aExtr_tup, aLen_ref, aLen_nil, aLen_sl, aLen_prm, aLen_str, aBuildL_some, aBuildS_some, aLoad_1b, aLoad_1d, aLoad_fb, aLoad_fd, aLoad_1p, aLoad_fp, aLoad_ep, aLoad_rr, aLoad_rd, aStore_1, aStore_f, aStore_r, aApp_some, aAppend_nil, aAppend_ref, aSlice_h, aSlice_l, aSlice_lh, aop_slice3, aSlice3_r, aop_field, aFld_agg, aBinW_f, aBinW_t, aWrap_mul, aWrap_add, isW_tmp, isW_mulc, isW_addc, isW_sub, isW_quo, isW_rem, isW_and, isW_or, isW_xor, isW_andNot, isW_shl, isW_shr, isW_eql, isW_neq, isW_lss, isW_leq, isW_gtr, isW_geq, Int.reduceLT, aBinW_dF, aBinW_dT, bc_draw, kregD_at, aopsD_nil, aopsD_plain, aopsD_guard, kontD_at, contD_at, yesD_at, noD_at, splD_bool, splD_undef, splD_skip, splD_int, splD_tt, splD_ff, splD_str, splD_nil, splD_sl, splD_prm, splD_ref, splD_ptr, splD_rp, splD_ep, splD_pv, splD_agg, splD_tup, splD_clo, gD_tt, gD_tf, gD_ft, gD_ff, gD_ts, gD_fs, slotO_some, addTr_nil, addTr_cons, memQ_nil, memQ_cons, clash_nil, clash_cons, regC_none, regC_nil, regC_cons, regR_nil, regR_cons, Int.toNat_zero, Int.toNat_one, rng0, rng1, rng2, rng3, rng4, SC.take, SC.drop, mp_nil, acond_ct, acond_cf, mp_one0, mp_one1, mp_one2, mp_one3, kcall_one, liveB_row, liveB_box, idx, cont, still, dies, lend, lendA, lendDies, snocs, SC.snoc, SC.app, meet, AV.cells, fillA, List.getD_cons_zero, List.getD_cons_succ, List.set_cons_zero, List.set_cons_succ, List.length_singleton, Nat.le_refl, Nat.lt_irrefl, Nat.reduceLT, Nat.reduceLeDiff, Option.map_some, Option.map_none, List.flatMap_nil, List.flatMap_cons, Nat.zero_add, BEq.rfl, kcall_two, mp_two0, mp_two1, mp_two2, mp_two3, mp_two4, aop_makeFunc, plainA, Bool.true_and, sl3, ty3, un3, sl49, ty49, un49, sl71, ty71, un71, sl69, ty69, un69, sl5, ty5, un5, sl2, ty2, un2, sl21, ty21, un21, sl4, ty4, un4, sl9, un9, sl22, ty22, un22, sl31, ty31, un31, sl36, sl53, ty38, sl38, ty41, sl41, inR64, inRu64, inRu32, gs_impl_areSets_43, at_impl_within, lend_impl_within, gs_impl_areSets_64, at_impl_isSetOf, lend_impl_isSetOf, Try.f58]
  simp only [lensA, lenA, lenSC] at hl
  refine ⟨fun h => by rw [setsOk, h]; rfl, fun hn => ?_⟩
  refine bc_loop (fun i : Nat => i ≤ xs.length ∧ ∀ k, k < i → inS n (xs.getD k 0) = true)
    (fun i => ⟨[(0, .int .i64 n), (10, .prm 1 (.ints .i64 xs)), (11, .int .i64 xs.length), (12, .int .i64 i)], []⟩) (fun i => xs.length - i)
    [0, 10, 11, 12] [] 0 rfl rfl (by simp) fun i ⟨h1, h2⟩ => ?_
  simp only [kcode_at, kreg_at, bc_skip, bc_seq, bc_cond, bc_block, bc_exit, bc_ret, bc_region, lkX_cons, acond_tmp, aCase_t, aCase_f, aCase_b, afin_nil, cvE_some, resL, resV, resC, cv, cvL, pack, entryE, inPrm, Option.getD_some, acall_clo, add_sp, add_lend, kcall_nil, selOf, selC, selA, inArgs, inA, inL, okA, okL, okBx, okC, outA, outL, outU, outB, deep, deepL, boxIds, AV.bid, List.map_nil, List.map_cons, List.all_nil, List.all_cons, BEq.rfl, Bool.and_true, Bool.true_and, List.append_nil, aops_nil, aops_plain, aops_guard, kont_at, yes_at, no_at, aop_move, aop_assign, aop_pick, aop_alloc, aop_box, aop_build, aop_buildSlice, aop_load, aop_store, aop_nilCheck, aop_binOp, aop_unOp, aop_convert, aop_fieldAddr, aop_indexAddr, aop_slice, aop_extract, aop_makeSlice, aop_len, aop_max, aMax_int, slTy2, SC0, aop_append, aop_call, evalE, getE, putE, getB, setB, St.put, setsB, nth, AV.ofV, AV.blk, AV.bid, AV.one, SC.len, SC.get, List.length_nil, List.length_cons, Nat.reduceEqDiff, Nat.reduceAdd, ↓reduceIte, true_and, and_true, Bool.true_eq_false, Bool.false_eq_true, false_imp_iff, true_imp_iff, decide_eq_true_eq, Bool.not_eq_true', Bool.not_eq_false', decide_eq_false_iff_not, Option.isSome, List.nil_append, List.cons_append, aGuardO_some, aGuard_tt, aGuard_tf, aGuard_ft, aGuard_ff, aGuard_tb, aGuard_fb, aGuard_ts, aGuard_fs, aPick_b, aPick_t, aPick_f, aAlloc_one, aAlloc_flat, aBox_some, aBuild_flat, aInt_add, aBin_add, aInt_sub, aBin_sub, aInt_mul, aBin_mul, aInt_quo, aBin_quo, aInt_rem, aBin_rem, aInt_and, aBin_and, aInt_or, aBin_or, aInt_xor, aBin_xor, aInt_andNot, aBin_andNot, aInt_eql, aBin_eql, aInt_neq, aBin_neq, aInt_lss, aBin_lss, aInt_leq, aBin_leq, aInt_gtr, aBin_gtr, aInt_geq, aBin_geq, aBin_shl, aBin_shr, aShift_shl, aShift_shr, aBin_be1, aBin_bn1, aBin_be2, aBin_bn2, aBin_be3, aBin_bn3, aBin_be4, aBin_bn4, aBin_be5, aBin_bn5, aBin_be6, aBin_bn6, aBin_be7, aBin_bn7, aBin_be8, aBin_bn8, aBin_be9, aBin_bn9, aUn_b, aUn_t, aUn_f, aUn_i, aNil_ptr, aNil_pv, aConv_int, aField_ptr, aField_pv, aIdx_sl, aIdx_prm, aIdx_row, aIdx_drow, aMake_i, aMake_s, aExtr_tup, aLen_ref, aLen_nil, aLen_sl, aLen_prm, aLen_str, aBuildL_some, aBuildS_some, aLoad_1b, aLoad_1d, aLoad_fb, aLoad_fd, aLoad_1p, aLoad_fp, aLoad_ep, aLoad_rr, aLoad_rd, aStore_1, aStore_f, aStore_r, aApp_some, aAppend_nil, aAppend_ref, aSlice_h, aSlice_l, aSlice_lh, aop_slice3, aSlice3_r, aop_field, aFld_agg, aBinW_f, aBinW_t, aWrap_mul, aWrap_add, isW_tmp, isW_mulc, isW_addc, isW_sub, isW_quo, isW_rem, isW_and, isW_or, isW_xor, isW_andNot, isW_shl, isW_shr, isW_eql, isW_neq, isW_lss, isW_leq, isW_gtr, isW_geq, Int.reduceLT, aBinW_dF, aBinW_dT, bc_draw, kregD_at, aopsD_nil, aopsD_plain, aopsD_guard, kontD_at, contD_at, yesD_at, noD_at, splD_bool, splD_undef, splD_skip, splD_int, splD_tt, splD_ff, splD_str, splD_nil, splD_sl, splD_prm, splD_ref, splD_ptr, splD_rp, splD_ep, splD_pv, splD_agg, splD_tup, splD_clo, gD_tt, gD_tf, gD_ft, gD_ff, gD_ts, gD_fs, slotO_some, addTr_nil, addTr_cons, memQ_nil, memQ_cons, clash_nil, clash_cons, regC_none, regC_nil, regC_cons, regR_nil, regR_cons, Int.toNat_zero, Int.toNat_one, rng0, rng1, rng2, rng3, rng4, SC.take, SC.drop, mp_nil, acond_ct, acond_cf, mp_one0, mp_one1, mp_one2, mp_one3, kcall_one, liveB_row, liveB_box, idx, cont, still, dies, lend, lendA, lendDies, snocs, SC.snoc, SC.app, meet, AV.cells, fillA, List.getD_cons_zero, List.getD_cons_succ, List.set_cons_zero, List.set_cons_succ, List.length_singleton, Nat.le_refl, Nat.lt_irrefl, Nat.reduceLT, Nat.reduceLeDiff, Option.map_some, Option.map_none, List.flatMap_nil, List.flatMap_cons, Nat.zero_add, BEq.rfl, kcall_two, mp_two0, mp_two1, mp_two2, mp_two3, mp_two4, aop_makeFunc, plainA, Bool.true_and, sl3, ty3, un3, sl49, ty49, un49, sl71, ty71, un71, sl69, ty69, un69, sl5, ty5, un5, sl2, ty2, un2, sl21, ty21, un21, sl4, ty4, un4, sl9, un9, sl22, ty22, un22, sl31, ty31, un31, sl36, sl53, ty38, sl38, ty41, sl41, inR64, inRu64, inRu32, gs_impl_areSets_43, at_impl_within, lend_impl_within, gs_impl_areSets_64, at_impl_isSetOf, lend_impl_isSetOf, Int.toNat_natCast]
  have hb := hn
  rw [inB_t] at hb
  refine ⟨fun hi => ⟨by omega, by omega, fun hf => ?_, fun ht => ⟨by omega, ?_⟩⟩, fun hi => ?_⟩
  · rw [setsOk, allN_f i (by omega) hf]; simp
  · exact klp_of (i + 1) rfl ⟨by omega, upto_succ h2 ht⟩ (by omega)
  · have : i = xs.length := by omega
    subst this
    rw [setsOk, hn, allN_t h2]; rfl
def lend_impl_areSets : List Nat := []
def sp_impl_areSets : List AV → List Bx → (AV → List Bx → Prop) → Prop
  | [.int .i64 n, .sl none (.ints .i64 xs)], [], K => K (.bool (setsOk n xs)) []
  | _, _, _ => False
theorem at_impl_areSets {n : Int} {xs : List Int} {K : AV → List Bx → Prop} : sp_impl_areSets [.int .i64 n, .sl none (.ints .i64 xs)] [] K = (K (.bool (setsOk n xs)) []) := id rfl
theorem ok_impl_areSets : ∀ args giv K, sp_impl_areSets args giv K → ∃ r outs, ARuns Try.prog 58 args giv r outs ∧ K r outs := by
  intro args giv K hk
  unfold sp_impl_areSets at hk
  split at hk
  · exact ⟨_, _, runs_impl_areSets _ _ , hk⟩
  · exact hk.elim
theorem is_impl_areFew : FnIs Try.prog 37 13 [.tmp 4] (Try.f37.body.getD .skip) := ⟨⟨Try.f37, by kernel_rfl, by kernel_rfl, by kernel_rfl, by kernel_rfl⟩, by kernel_rfl, by kernel_rfl⟩
def G_impl_areFew : Gm := (Gm.none.add 58 lend_impl_areSets sp_impl_areSets)
theorem G_impl_areFew_ok : G_impl_areFew.ok Try.prog := (Gm.add_ok Gm.none_ok ok_impl_areSets)
theorem gs_impl_areFew_58 : G_impl_areFew.sp 58 = sp_impl_areSets ∧ G_impl_areFew.lend 58 = lend_impl_areSets := ⟨rfl, rfl⟩
set_option maxHeartbeats 1000000 in
set_option maxRecDepth 100000 in
theorem runs_impl_areFew (n : Int) (xs : List Int) : ARuns Try.prog 37 [.int .i64 n, .sl none (.ints .i64 xs)] [] (.bool (fewB n xs)) [] := by
  refine ARuns_bc G_impl_areFew_ok is_impl_areFew (by simp) fun hl hlB => ?_
  simp only [kcode_at, kreg_at, bc_skip, bc_seq, bc_cond, bc_block, bc_exit, bc_ret, bc_region, lkX_cons, acond_tmp, aCase_t, aCase_f, aCase_b, afin_nil, cvE_some, resL, resV, resC, cv, cvL, pack, entryE, inPrm, Option.getD_some, acall_clo, add_sp, add_lend, kcall_nil, selOf, selC, selA, inArgs, inA, inL, okA, okL, okBx, okC, outA, outL, outU, outB, deep, deepL, boxIds, AV.bid, List.map_nil, List.map_cons, List.all_nil, List.all_cons, BEq.rfl, Bool.and_true, Bool.true_and, List.append_nil, aops_nil, aops_plain, aops_guard, kont_at, yes_at, no_at, aop_move, aop_assign, aop_pick, aop_alloc, aop_box, aop_build, aop_buildSlice, aop_load, aop_store, aop_nilCheck, aop_binOp, aop_unOp, aop_convert, aop_fieldAddr, aop_indexAddr, aop_slice, aop_extract, aop_makeSlice, aop_len, aop_max, aMax_int, slTy2, SC0, aop_append, aop_call, evalE, getE, putE, getB, setB, St.put, setsB, nth, AV.ofV, AV.blk, AV.bid, AV.one, SC.len, SC.get, List.length_nil, List.length_cons, Nat.reduceEqDiff, Nat.reduceAdd, ↓reduceIte, true_and, and_true, Bool.true_eq_false, Bool.false_eq_true, false_imp_iff, true_imp_iff, decide_eq_true_eq, Bool.not_eq_true', Bool.not_eq_false', decide_eq_false_iff_not, Option.isSome, List.nil_append, List.cons_append, aGuardO_some, aGuard_tt, aGuard_tf, aGuard_ft, aGuard_ff, aGuard_tb, aGuard_fb, aGuard_ts, aGuard_fs, aPick_b, aPick_t, aPick_f, aAlloc_one, aAlloc_flat, aBox_some, aBuild_flat, aInt_add, aBin_add, aInt_sub, aBin_sub, aInt_mul, aBin_mul, aInt_quo, aBin_quo, aInt_rem, aBin_rem, aInt_and, aBin_and, aInt_or, aBin_or, aInt_xor, aBin_xor, aInt_andNot, aBin_andNot, aInt_eql, aBin_eql, aInt_neq, aBin_neq, aInt_lss, aBin_lss, aInt_leq, aBin_leq, aInt_gtr, aBin_gtr, aInt_geq, aBin_geq, aBin_shl, aBin_shr, aShift_shl, aShift_shr, aBin_be1, aBin_bn1, aBin_be2, aBin_bn2, aBin_be3, aBin_bn3, aBin_be4, aBin_bn4, aBin_be5, aBin_bn5, aBin_be6, aBin_bn6, aBin_be7, aBin_bn7, aBin_be8, aBin_bn8, aBin_be9, aBin_bn9, aUn_b, aUn_t, aUn_f, aUn_i, aNil_ptr, aNil_pv, aConv_int, aField_ptr, aField_pv, aIdx_sl, aIdx_prm, aIdx_row, aIdx_drow, aMake_i, aMake_s, aExtr_tup, aLen_ref, aLen_nil, aLen_sl, aLen_prm, aLen_str, aBuildL_some, aBuildS_some, aLoad_1b, aLoad_1d, aLoad_fb, aLoad_fd, aLoad_1p, aLoad_fp, aLoad_ep, aLoad_rr, aLoad_rd, aStore_1, aStore_f, aStore_r, aApp_some, aAppend_nil, aAppend_ref, aSlice_h, aSlice_l, aSlice_lh, aop_slice3, aSlice3_r, aop_field, aFld_agg, aBinW_f, aBinW_t, aWrap_mul, aWrap_add, isW_tmp, isW_mulc, isW_addc, isW_sub, isW_quo, isW_rem, isW_and, isW_or, isW_xor, isW_andNot, isW_shl, isW_shr, isW_eql, isW_neq, isW_lss, isW_leq, isW_gtr, isW_geq, Int.reduceLT, aBinW_dF, aBinW_dT, bc_draw, kregD_at, aopsD_nil, aopsD_plain, aopsD_guard, kontD_at, contD_at, yesD_at, noD_at, splD_bool, splD_undef, splD_skip, splD_int, splD_tt, splD_ff, splD_str, splD_nil, splD_sl, splD_prm, splD_ref, splD_ptr, splD_rp, splD_ep, splD_pv, splD_agg, splD_tup, splD_clo, gD_tt, gD_tf, gD_ft, gD_ff, gD_ts, gD_fs, slotO_some, addTr_nil, addTr_cons, memQ_nil, memQ_cons, clash_nil, clash_cons, regC_none, regC_nil, regC_cons, regR_nil, regR_cons, Int.toNat_zero, Int.toNat_one, rng0, rng1, rng2, rng3, rng4, SC.take, SC.drop, mp_nil, acond_ct, acond_cf, mp_one0, mp_one1, mp_one2, mp_one3, kcall_one, liveB_row, liveB_box, idx, cont, still, dies, lend, lendA, lendDies, snocs, SC.snoc, SC.app, meet, AV.cells, fillA, List.getD_cons_zero, List.getD_cons_succ, List.set_cons_zero, List.set_cons_succ, List.length_singleton, Nat.le_refl, Nat.lt_irrefl, Nat.reduceLT, Nat.reduceLeDiff, Option.map_some, Option.map_none, List.flatMap_nil, List.flatMap_cons, Nat.zero_add, BEq.rfl, kcall_two, mp_two0, mp_two1, mp_two2, mp_two3, mp_two4, aop_makeFunc, plainA, Bool.true_and, sl3, ty3, un3, sl49, ty49, un49, sl71, ty71, un71, sl69, ty69, un69, sl5, ty5, un5, sl2, ty2, un2, sl21, ty21, un21, sl4, ty4, un4, sl9, un9, sl22, ty22, un22, sl31, ty31, un31, sl36, sl53, ty38, sl38, ty41, sl41, inR64, inRu64, inRu32, gs_impl_areFew_58, at_impl_areSets, lend_impl_areSets, Try.f37]
  refine ⟨fun h => ?_, fun h => ?_⟩
  · rw [fewB, decide_eq_true (by omega)]; rfl
  · rw [fewB, decide_eq_false (by omega)]; rfl
def lend_impl_areFew : List Nat := []
def sp_impl_areFew : List AV → List Bx → (AV → List Bx → Prop) → Prop
  | [.int .i64 n, .sl none (.ints .i64 xs)], [], K => K (.bool (fewB n xs)) []
  | _, _, _ => False
theorem at_impl_areFew {n : Int} {xs : List Int} {K : AV → List Bx → Prop} : sp_impl_areFew [.int .i64 n, .sl none (.ints .i64 xs)] [] K = (K (.bool (fewB n xs)) []) := id rfl
theorem ok_impl_areFew : ∀ args giv K, sp_impl_areFew args giv K → ∃ r outs, ARuns Try.prog 37 args giv r outs ∧ K r outs := by
  intro args giv K hk
  unfold sp_impl_areFew at hk
  split at hk
  · exact ⟨_, _, runs_impl_areFew _ _ , hk⟩
  · exact hk.elim
theorem is_impl_elementsOf : FnIs Try.prog 38 23 [.tmp 2] (Try.f38.body.getD .skip) := ⟨⟨Try.f38, by kernel_rfl, by kernel_rfl, by kernel_rfl, by kernel_rfl⟩, by kernel_rfl, by kernel_rfl⟩
def G_impl_elementsOf : Gm := Gm.none
theorem G_impl_elementsOf_ok : G_impl_elementsOf.ok Try.prog := Gm.none_ok
set_option maxHeartbeats 1000000 in
set_option maxRecDepth 100000 in
theorem runs_impl_elementsOf (s : Int) (hp1 : 0 ≤ s ∧ s < 2 ^ 62) : ARuns Try.prog 38 [.int .i64 s] [] (.ref 0 (elemsL s).length) [.row 3 (.ints .i64 (elemsL s))] := by
  refine ARuns_bc G_impl_elementsOf_ok is_impl_elementsOf (by simp) fun hl hlB => ?_
  simp only [kcode_at, kreg_at, bc_skip, bc_seq, bc_cond, bc_block, bc_exit, bc_ret, bc_region, lkX_cons, acond_tmp, aCase_t, aCase_f, aCase_b, afin_nil, cvE_some, resL, resV, resC, cv, cvL, pack, entryE, inPrm, Option.getD_some, acall_clo, add_sp, add_lend, kcall_nil, selOf, selC, selA, inArgs, inA, inL, okA, okL, okBx, okC, outA, outL, outU, outB, deep, deepL, boxIds, AV.bid, List.map_nil, List.map_cons, List.all_nil, List.all_cons, BEq.rfl, Bool.and_true, Bool.true_and, List.append_nil, aops_nil, aops_plain, aops_guard, kont_at, yes_at, no_at, aop_move, aop_assign, aop_pick, aop_alloc, aop_box, aop_build, aop_buildSlice, aop_load, aop_store, aop_nilCheck, aop_binOp, aop_unOp, aop_convert, aop_fieldAddr, aop_indexAddr, aop_slice, aop_extract, aop_makeSlice, aop_len, aop_max, aMax_int, slTy2, SC0, aop_append, aop_call, evalE, getE, putE, getB, setB, St.put, setsB, nth, AV.ofV, AV.blk, AV.bid, AV.one, SC.len, SC.get, List.length_nil, List.length_cons, Nat.reduceEqDiff, Nat.reduceAdd, ↓reduceIte, true_and, and_true, Bool.true_eq_false, Bool.false_eq_true, false_imp_iff, true_imp_iff, decide_eq_true_eq, Bool.not_eq_true', Bool.not_eq_false', decide_eq_false_iff_not, Option.isSome, List.nil_append, List.cons_append, aGuardO_some, aGuard_tt, aGuard_tf, aGuard_ft, aGuard_ff, aGuard_tb, aGuard_fb, aGuard_ts, aGuard_fs, aPick_b, aPick_t, aPick_f, aAlloc_one, aAlloc_flat, aBox_some, aBuild_flat, aInt_add, aBin_add, aInt_sub, aBin_sub, aInt_mul, aBin_mul, aInt_quo, aBin_quo, aInt_rem, aBin_rem, aInt_and, aBin_and, aInt_or, aBin_or, aInt_xor, aBin_xor, aInt_andNot, aBin_andNot, aInt_eql, aBin_eql, aInt_neq, aBin_neq, aInt_lss, aBin_lss, aInt_leq, aBin_leq, aInt_gtr, aBin_gtr, aInt_geq, aBin_geq, aBin_shl, aBin_shr, aShift_shl, aShift_shr, aBin_be1, aBin_bn1, aBin_be2, aBin_bn2, aBin_be3, aBin_bn3, aBin_be4, aBin_bn4, aBin_be5, aBin_bn5, aBin_be6, aBin_bn6, aBin_be7, aBin_bn7, aBin_be8, aBin_bn8, aBin_be9, aBin_bn9, aUn_b, aUn_t, aUn_f, aUn_i, aNil_ptr, aNil_pv, aConv_int, aField_ptr, aField_pv, aIdx_sl, aIdx_prm, aIdx_row, aIdx_drow, aMake_i, aMake_s, aExtr_tup, aLen_ref, aLen_nil, aLen_sl, aLen_prm, aLen_str, aBuildL_some, aBuildS_some, aLoad_1b, aLoad_1d, aLoad_fb, aLoad_fd, aLoad_1p, aLoad_fp, aLoad_ep, aLoad_rr, aLoad_rd, aStore_1, aStore_f, aStore_r, aApp_some, aAppend_nil, aAppend_ref, aSlice_h, aSlice_l, aSlice_lh, aop_slice3, aSlice3_r, aop_field, aFld_agg, aBinW_f, aBinW_t, aWrap_mul, aWrap_add, isW_tmp, isW_mulc, isW_addc, isW_sub, isW_quo, isW_rem, isW_and, isW_or, isW_xor, isW_andNot, isW_shl, isW_shr, isW_eql, isW_neq, isW_lss, isW_leq, isW_gtr, isW_geq, Int.reduceLT, aBinW_dF, aBinW_dT, bc_draw, kregD_at, aopsD_nil, aopsD_plain, aopsD_guard, kontD_at, contD_at, yesD_at, noD_at, splD_bool, splD_undef, splD_skip, splD_int, splD_tt, splD_ff, splD_str, splD_nil, splD_sl, splD_prm, splD_ref, splD_ptr, splD_rp, splD_ep, splD_pv, splD_agg, splD_tup, splD_clo, gD_tt, gD_tf, gD_ft, gD_ff, gD_ts, gD_fs, slotO_some, addTr_nil, addTr_cons, memQ_nil, memQ_cons, clash_nil, clash_cons, regC_none, regC_nil, regC_cons, regR_nil, regR_cons, Int.toNat_zero, Int.toNat_one, rng0, rng1, rng2, rng3, rng4, SC.take, SC.drop, mp_nil, acond_ct, acond_cf, mp_one0, mp_one1, mp_one2, mp_one3, kcall_one, liveB_row, liveB_box, idx, cont, still, dies, lend, lendA, lendDies, snocs, SC.snoc, SC.app, meet, AV.cells, fillA, List.getD_cons_zero, List.getD_cons_succ, List.set_cons_zero, List.set_cons_succ, List.length_singleton, Nat.le_refl, Nat.lt_irrefl, Nat.reduceLT, Nat.reduceLeDiff, Option.map_some, Option.map_none, List.flatMap_nil, List.flatMap_cons, Nat.zero_add, BEq.rfl, kcall_two, mp_two0, mp_two1, mp_two2, mp_two3, mp_two4, aop_makeFunc, plainA, Bool.true_and, sl3, ty3, un3, sl49, ty49, un49, sl71, ty71, un71, sl69, ty69, un69, sl5, ty5, un5, sl2, ty2, un2, sl21, ty21, un21, sl4, ty4, un4, sl9, un9, sl22, ty22, un22, sl31, ty31, un31, sl36, sl53, ty38, sl38, ty41, sl41, inR64, inRu64, inRu32, Try.f38]
  obtain ⟨S, rfl⟩ := Int.eq_ofNat_of_zero_le hp1.1
  refine bc_loopN [(3, 3, .ints .i64 [])] (fun i : Nat => i ≤ 62)
    (fun i => ⟨[(0, .int .i64 S), (3, .ref 0 (elemsF S i).length), (4, .int .i64 i)], [.row 3 (.ints .i64 (elemsF S i))]⟩) (fun i => S / 2 ^ i)
    [0, 3, 4] [0] 0 rfl rfl (by simp [elemsF, St.conv, St.bf, getE, putE, getB, cv, cvL, cvB, idx, still, lifts, liftOne]) (by omega) fun i h1 => ?_
  simp only [kcode_at, kreg_at, bc_skip, bc_seq, bc_cond, bc_block, bc_exit, bc_ret, bc_region, lkX_cons, acond_tmp, aCase_t, aCase_f, aCase_b, afin_nil, cvE_some, resL, resV, resC, cv, cvL, pack, entryE, inPrm, Option.getD_some, acall_clo, add_sp, add_lend, kcall_nil, selOf, selC, selA, inArgs, inA, inL, okA, okL, okBx, okC, outA, outL, outU, outB, deep, deepL, boxIds, AV.bid, List.map_nil, List.map_cons, List.all_nil, List.all_cons, BEq.rfl, Bool.and_true, Bool.true_and, List.append_nil, aops_nil, aops_plain, aops_guard, kont_at, yes_at, no_at, aop_move, aop_assign, aop_pick, aop_alloc, aop_box, aop_build, aop_buildSlice, aop_load, aop_store, aop_nilCheck, aop_binOp, aop_unOp, aop_convert, aop_fieldAddr, aop_indexAddr, aop_slice, aop_extract, aop_makeSlice, aop_len, aop_max, aMax_int, slTy2, SC0, aop_append, aop_call, evalE, getE, putE, getB, setB, St.put, setsB, nth, AV.ofV, AV.blk, AV.bid, AV.one, SC.len, SC.get, List.length_nil, List.length_cons, Nat.reduceEqDiff, Nat.reduceAdd, ↓reduceIte, true_and, and_true, Bool.true_eq_false, Bool.false_eq_true, false_imp_iff, true_imp_iff, decide_eq_true_eq, Bool.not_eq_true', Bool.not_eq_false', decide_eq_false_iff_not, Option.isSome, List.nil_append, List.cons_append, aGuardO_some, aGuard_tt, aGuard_tf, aGuard_ft, aGuard_ff, aGuard_tb, aGuard_fb, aGuard_ts, aGuard_fs, aPick_b, aPick_t, aPick_f, aAlloc_one, aAlloc_flat, aBox_some, aBuild_flat, aInt_add, aBin_add, aInt_sub, aBin_sub, aInt_mul, aBin_mul, aInt_quo, aBin_quo, aInt_rem, aBin_rem, aInt_and, aBin_and, aInt_or, aBin_or, aInt_xor, aBin_xor, aInt_andNot, aBin_andNot, aInt_eql, aBin_eql, aInt_neq, aBin_neq, aInt_lss, aBin_lss, aInt_leq, aBin_leq, aInt_gtr, aBin_gtr, aInt_geq, aBin_geq, aBin_shl, aBin_shr, aShift_shl, aShift_shr, aBin_be1, aBin_bn1, aBin_be2, aBin_bn2, aBin_be3, aBin_bn3, aBin_be4, aBin_bn4, aBin_be5, aBin_bn5, aBin_be6, aBin_bn6, aBin_be7, aBin_bn7, aBin_be8, aBin_bn8, aBin_be9, aBin_bn9, aUn_b, aUn_t, aUn_f, aUn_i, aNil_ptr, aNil_pv, aConv_int, aField_ptr, aField_pv, aIdx_sl, aIdx_prm, aIdx_row, aIdx_drow, aMake_i, aMake_s, aExtr_tup, aLen_ref, aLen_nil, aLen_sl, aLen_prm, aLen_str, aBuildL_some, aBuildS_some, aLoad_1b, aLoad_1d, aLoad_fb, aLoad_fd, aLoad_1p, aLoad_fp, aLoad_ep, aLoad_rr, aLoad_rd, aStore_1, aStore_f, aStore_r, aApp_some, aAppend_nil, aAppend_ref, aSlice_h, aSlice_l, aSlice_lh, aop_slice3, aSlice3_r, aop_field, aFld_agg, aBinW_f, aBinW_t, aWrap_mul, aWrap_add, isW_tmp, isW_mulc, isW_addc, isW_sub, isW_quo, isW_rem, isW_and, isW_or, isW_xor, isW_andNot, isW_shl, isW_shr, isW_eql, isW_neq, isW_lss, isW_leq, isW_gtr, isW_geq, Int.reduceLT, aBinW_dF, aBinW_dT, bc_draw, kregD_at, aopsD_nil, aopsD_plain, aopsD_guard, kontD_at, contD_at, yesD_at, noD_at, splD_bool, splD_undef, splD_skip, splD_int, splD_tt, splD_ff, splD_str, splD_nil, splD_sl, splD_prm, splD_ref, splD_ptr, splD_rp, splD_ep, splD_pv, splD_agg, splD_tup, splD_clo, gD_tt, gD_tf, gD_ft, gD_ff, gD_ts, gD_fs, slotO_some, addTr_nil, addTr_cons, memQ_nil, memQ_cons, clash_nil, clash_cons, regC_none, regC_nil, regC_cons, regR_nil, regR_cons, Int.toNat_zero, Int.toNat_one, rng0, rng1, rng2, rng3, rng4, SC.take, SC.drop, mp_nil, acond_ct, acond_cf, mp_one0, mp_one1, mp_one2, mp_one3, kcall_one, liveB_row, liveB_box, idx, cont, still, dies, lend, lendA, lendDies, snocs, SC.snoc, SC.app, meet, AV.cells, fillA, List.getD_cons_zero, List.getD_cons_succ, List.set_cons_zero, List.set_cons_succ, List.length_singleton, Nat.le_refl, Nat.lt_irrefl, Nat.reduceLT, Nat.reduceLeDiff, Option.map_some, Option.map_none, List.flatMap_nil, List.flatMap_cons, Nat.zero_add, BEq.rfl, kcall_two, mp_two0, mp_two1, mp_two2, mp_two3, mp_two4, aop_makeFunc, plainA, Bool.true_and, sl3, ty3, un3, sl49, ty49, un49, sl71, ty71, un71, sl69, ty69, un69, sl5, ty5, un5, sl2, ty2, un2, sl21, ty21, un21, sl4, ty4, un4, sl9, un9, sl22, ty22, un22, sl31, ty31, un31, sl36, sl53, ty38, sl38, ty41, sl41, inR64, inRu64, inRu32, Int.toNat_natCast]
  have hq : S / 2 ^ i ≤ S := Nat.div_le_self _ _
  have hl2 := elemsF_len (s := S) (n := i)
  have hd := div_next (s := S) (i := i)
  simp only [IntKind.bits]
  have ed : (S : Int) / 2 ^ i = ((S / 2 ^ i : Nat) : Int) := by simp
  rw [ed]
  have ht := elemsF_t (s := S) (n := i)
  have hf := elemsF_f (s := S) (n := i)
  have hlt := elems_lt (s := S) (i := i)
  have hat : S / 2 ^ i = 0 → elemsL S = elemsF S i := fun h => by
    have := elems_at (s := S) (i := i) h h1
    simpa using this
  clear ed
  generalize hqe : S / 2 ^ i = q at *
  have e6 : (q : Int) / 2 = (S : Int) / 2 ^ (i + 1) := by
    have := congrArg (fun n : Nat => (n : Int)) hd
    simpa using this.symm
  have hb : band .i64 (q : Int) 1 = (q : Int) % 2 := band_one (by omega)
  rw [hb]
  refine ⟨by omega, by omega, fun h0 => ?_, fun h0 => ?_⟩
  · have hi := hlt (by omega) (by omega)
    refine ⟨by omega, by omega, fun h1 => ⟨by omega, by omega, klp_of (i + 1) ?_ (by omega) (by simp only [hqe, hd]; omega)⟩, fun h1 => ⟨by omega, klp_of (i + 1) ?_ (by omega) (by simp only [hqe, hd]; omega)⟩⟩
    · rw [ht (by omega)]
      simp [St.conv, St.bf, getE, putE, getB, cv, cvL, cvB, idx, still, pack, lifts, liftOne, cellsOfB, setB]
    · rw [hf (by omega)]
      simp [St.conv, St.bf, getE, putE, getB, cv, cvL, cvB, idx, still, pack, lifts, liftOne, cellsOfB, setB]
  · rw [hat (by omega)]
    exact afin_of [0] rfl rfl (by simp [St.conv, St.bf, getE, putE, getB, cv, cvL, cvB, idx, still, pack, lifts, liftOne, cellsOfB, setB]) (by simp [St.conv, St.bf, getE, putE, getB, cv, cvL, cvB, idx, still, pack, lifts, liftOne, cellsOfB, setB])
def lend_impl_elementsOf : List Nat := []
def sp_impl_elementsOf : List AV → List Bx → (AV → List Bx → Prop) → Prop
  | [.int .i64 s], [], K => (0 ≤ s ∧ s < 2 ^ 62) ∧ K (.ref 0 (elemsL s).length) [.row 3 (.ints .i64 (elemsL s))]
  | _, _, _ => False
theorem at_impl_elementsOf {s : Int} {K : AV → List Bx → Prop} : sp_impl_elementsOf [.int .i64 s] [] K = ((0 ≤ s ∧ s < 2 ^ 62) ∧ K (.ref 0 (elemsL s).length) [.row 3 (.ints .i64 (elemsL s))]) := id rfl
theorem ok_impl_elementsOf : ∀ args giv K, sp_impl_elementsOf args giv K → ∃ r outs, ARuns Try.prog 38 args giv r outs ∧ K r outs := by
  intro args giv K hk
  unfold sp_impl_elementsOf at hk
  split at hk
  · obtain ⟨hp1, hk⟩ := hk; exact ⟨_, _, runs_impl_elementsOf _ hp1, hk⟩
  · exact hk.elim
theorem is_impl_RepresentativesOf_1 : FnIs Try.prog 41 6 [.tmp 4] (Try.f41.body.getD .skip) := ⟨⟨Try.f41, by kernel_rfl, by kernel_rfl, by kernel_rfl, by kernel_rfl⟩, by kernel_rfl, by kernel_rfl⟩
def G_impl_RepresentativesOf_1 : Gm := Gm.none
theorem G_impl_RepresentativesOf_1_ok : G_impl_RepresentativesOf_1.ok Try.prog := Gm.none_ok
set_option maxHeartbeats 1000000 in
set_option maxRecDepth 100000 in
theorem runs_impl_RepresentativesOf_1 (l : List Int) (o b : AV) : ARuns Try.prog 41 [.sl none (.ints .i64 l), .ptr 0 0, .ptr 1 0] [.box [o], .box [b]] (.bool false) [.box [.prm 0 (.ints .i64 l)], .box [.bool true]] := by
  refine ARuns_bc G_impl_RepresentativesOf_1_ok is_impl_RepresentativesOf_1 (by simp) fun hl hlB => ?_
  simp only [kcode_at, kreg_at, bc_skip, bc_seq, bc_cond, bc_block, bc_exit, bc_ret, bc_region, lkX_cons, acond_tmp, aCase_t, aCase_f, aCase_b, afin_nil, cvE_some, resL, resV, resC, cv, cvL, pack, entryE, inPrm, Option.getD_some, acall_clo, add_sp, add_lend, kcall_nil, selOf, selC, selA, inArgs, inA, inL, okA, okL, okBx, okC, outA, outL, outU, outB, deep, deepL, boxIds, AV.bid, List.map_nil, List.map_cons, List.all_nil, List.all_cons, BEq.rfl, Bool.and_true, Bool.true_and, List.append_nil, aops_nil, aops_plain, aops_guard, kont_at, yes_at, no_at, aop_move, aop_assign, aop_pick, aop_alloc, aop_box, aop_build, aop_buildSlice, aop_load, aop_store, aop_nilCheck, aop_binOp, aop_unOp, aop_convert, aop_fieldAddr, aop_indexAddr, aop_slice, aop_extract, aop_makeSlice, aop_len, aop_max, aMax_int, slTy2, SC0, aop_append, aop_call, evalE, getE, putE, getB, setB, St.put, setsB, nth, AV.ofV, AV.blk, AV.bid, AV.one, SC.len, SC.get, List.length_nil, List.length_cons, Nat.reduceEqDiff, Nat.reduceAdd, ↓reduceIte, true_and, and_true, Bool.true_eq_false, Bool.false_eq_true, false_imp_iff, true_imp_iff, decide_eq_true_eq, Bool.not_eq_true', Bool.not_eq_false', decide_eq_false_iff_not, Option.isSome, List.nil_append, List.cons_append, aGuardO_some, aGuard_tt, aGuard_tf, aGuard_ft, aGuard_ff, aGuard_tb, aGuard_fb, aGuard_ts, aGuard_fs, aPick_b, aPick_t, aPick_f, aAlloc_one, aAlloc_flat, aBox_some, aBuild_flat, aInt_add, aBin_add, aInt_sub, aBin_sub, aInt_mul, aBin_mul, aInt_quo, aBin_quo, aInt_rem, aBin_rem, aInt_and, aBin_and, aInt_or, aBin_or, aInt_xor, aBin_xor, aInt_andNot, aBin_andNot, aInt_eql, aBin_eql, aInt_neq, aBin_neq, aInt_lss, aBin_lss, aInt_leq, aBin_leq, aInt_gtr, aBin_gtr, aInt_geq, aBin_geq, aBin_shl, aBin_shr, aShift_shl, aShift_shr, aBin_be1, aBin_bn1, aBin_be2, aBin_bn2, aBin_be3, aBin_bn3, aBin_be4, aBin_bn4, aBin_be5, aBin_bn5, aBin_be6, aBin_bn6, aBin_be7, aBin_bn7, aBin_be8, aBin_bn8, aBin_be9, aBin_bn9, aUn_b, aUn_t, aUn_f, aUn_i, aNil_ptr, aNil_pv, aConv_int, aField_ptr, aField_pv, aIdx_sl, aIdx_prm, aIdx_row, aIdx_drow, aMake_i, aMake_s, aExtr_tup, aLen_ref, aLen_nil, aLen_sl, aLen_prm, aLen_str, aBuildL_some, aBuildS_some, aLoad_1b, aLoad_1d, aLoad_fb, aLoad_fd, aLoad_1p, aLoad_fp, aLoad_ep, aLoad_rr, aLoad_rd, aStore_1, aStore_f, aStore_r, aApp_some, aAppend_nil, aAppend_ref, aSlice_h, aSlice_l, aSlice_lh, aop_slice3, aSlice3_r, aop_field, aFld_agg, aBinW_f, aBinW_t, aWrap_mul, aWrap_add, isW_tmp, isW_mulc, isW_addc, isW_sub, isW_quo, isW_rem, isW_and, isW_or, isW_xor, isW_andNot, isW_shl, isW_shr, isW_eql, isW_neq, isW_lss, isW_leq, isW_gtr, isW_geq, Int.reduceLT, aBinW_dF, aBinW_dT, bc_draw, kregD_at, aopsD_nil, aopsD_plain, aopsD_guard, kontD_at, contD_at, yesD_at, noD_at, splD_bool, splD_undef, splD_skip, splD_int, splD_tt, splD_ff, splD_str, splD_nil, splD_sl, splD_prm, splD_ref, splD_ptr, splD_rp, splD_ep, splD_pv, splD_agg, splD_tup, splD_clo, gD_tt, gD_tf, gD_ft, gD_ff, gD_ts, gD_fs, slotO_some, addTr_nil, addTr_cons, memQ_nil, memQ_cons, clash_nil, clash_cons, regC_none, regC_nil, regC_cons, regR_nil, regR_cons, Int.toNat_zero, Int.toNat_one, rng0, rng1, rng2, rng3, rng4, SC.take, SC.drop, mp_nil, acond_ct, acond_cf, mp_one0, mp_one1, mp_one2, mp_one3, kcall_one, liveB_row, liveB_box, idx, cont, still, dies, lend, lendA, lendDies, snocs, SC.snoc, SC.app, meet, AV.cells, fillA, List.getD_cons_zero, List.getD_cons_succ, List.set_cons_zero, List.set_cons_succ, List.length_singleton, Nat.le_refl, Nat.lt_irrefl, Nat.reduceLT, Nat.reduceLeDiff, Option.map_some, Option.map_none, List.flatMap_nil, List.flatMap_cons, Nat.zero_add, BEq.rfl, kcall_two, mp_two0, mp_two1, mp_two2, mp_two3, mp_two4, aop_makeFunc, plainA, Bool.true_and, sl3, ty3, un3, sl49, ty49, un49, sl71, ty71, un71, sl69, ty69, un69, sl5, ty5, un5, sl2, ty2, un2, sl21, ty21, un21, sl4, ty4, un4, sl9, un9, sl22, ty22, un22, sl31, ty31, un31, sl36, sl53, ty38, sl38, ty41, sl41, inR64, inRu64, inRu32, Try.f41]
  exact afin_of [0, 1] rfl rfl (by simp [St.conv, St.bf, getE, putE, getB, cv, cvL, cvB, idx, still, pack, lifts, liftOne, cellsOfB, setB]) (by simp [St.conv, St.bf, getE, putE, getB, cv, cvL, cvB, idx, still, pack, lifts, liftOne, cellsOfB, setB])
def lend_impl_RepresentativesOf_1 : List Nat := [1, 2]
def sp_impl_RepresentativesOf_1 : List AV → List Bx → (AV → List Bx → Prop) → Prop
  | [.sl none (.ints .i64 l), .ptr 0 0, .ptr 1 0], [.box [o], .box [b]], K => K (.bool false) [.box [.prm 0 (.ints .i64 l)], .box [.bool true]]
  | _, _, _ => False
theorem at_impl_RepresentativesOf_1 {l : List Int} {o b : AV} {K : AV → List Bx → Prop} : sp_impl_RepresentativesOf_1 [.sl none (.ints .i64 l), .ptr 0 0, .ptr 1 0] [.box [o], .box [b]] K = (K (.bool false) [.box [.prm 0 (.ints .i64 l)], .box [.bool true]]) := id rfl
theorem ok_impl_RepresentativesOf_1 : ∀ args giv K, sp_impl_RepresentativesOf_1 args giv K → ∃ r outs, ARuns Try.prog 41 args giv r outs ∧ K r outs := by
  intro args giv K hk
  unfold sp_impl_RepresentativesOf_1 at hk
  split at hk
  · exact ⟨_, _, runs_impl_RepresentativesOf_1 _ _ _ , hk⟩
  · exact hk.elim
theorem is_impl_visitLists : FnIs Try.prog 40 49 [.tmp 8] (Try.f40.body.getD .skip) := ⟨⟨Try.f40, by kernel_rfl, by kernel_rfl, by kernel_rfl, by kernel_rfl⟩, by kernel_rfl, by kernel_rfl⟩
def lend_impl_visitLists : List Nat := [3]
def spR_impl_visitLists (N : Nat) : List AV → List Bx → (AV → List Bx → Prop) → Prop
  | [.sl none (.ints .i64 l), .int .i64 u, .sl none (.ints .i64 x), .clo 41 [.ptr 0 0, .ptr 1 0]], [.box [.sl (some e0) (.ints .i64 [])], .box [.bool false]], K => (l.length - x.length < N) ∧ (l.length ≤ 6) ∧ (∀ j, j < l.length → 0 ≤ l.getD j 0 ∧ l.getD j 0 ≤ 63) ∧ (0 ≤ u ∧ u ≤ 63) ∧ (x.length ≤ l.length) ∧ (e0 = 3) ∧ ((x.length = l.length) → K (.bool false) [.box [.prm 2 (.ints .i64 x)], .box [.bool true]]) ∧ ((¬ x.length = l.length) → K (.bool (!opB (repO (l.drop x.length) u.toNat x))) [.box [.sl (some 3) (.ints .i64 (opL (repO (l.drop x.length) u.toNat x)))], .box [.bool (opB (repO (l.drop x.length) u.toNat x))]])
  | _, _, _ => False
theorem atR_impl_visitLists {N : Nat} {l : List Int} {u : Int} {x : List Int} {e0 : TypeId} {K : AV → List Bx → Prop} : spR_impl_visitLists N [.sl none (.ints .i64 l), .int .i64 u, .sl none (.ints .i64 x), .clo 41 [.ptr 0 0, .ptr 1 0]] [.box [.sl (some e0) (.ints .i64 [])], .box [.bool false]] K = ((l.length - x.length < N) ∧ (l.length ≤ 6) ∧ (∀ j, j < l.length → 0 ≤ l.getD j 0 ∧ l.getD j 0 ≤ 63) ∧ (0 ≤ u ∧ u ≤ 63) ∧ (x.length ≤ l.length) ∧ (e0 = 3) ∧ ((x.length = l.length) → K (.bool false) [.box [.prm 2 (.ints .i64 x)], .box [.bool true]]) ∧ ((¬ x.length = l.length) → K (.bool (!opB (repO (l.drop x.length) u.toNat x))) [.box [.sl (some 3) (.ints .i64 (opL (repO (l.drop x.length) u.toNat x)))], .box [.bool (opB (repO (l.drop x.length) u.toNat x))]])) := id rfl
def G_impl_visitLists (N : Nat) : Gm := ((Gm.none.add 38 lend_impl_elementsOf sp_impl_elementsOf).add 41 lend_impl_RepresentativesOf_1 sp_impl_RepresentativesOf_1).add 40 lend_impl_visitLists (spR_impl_visitLists N)
theorem gs_impl_visitLists_40 {N : Nat} : (G_impl_visitLists N).sp 40 = spR_impl_visitLists N ∧ (G_impl_visitLists N).lend 40 = lend_impl_visitLists := ⟨rfl, rfl⟩
theorem gs_impl_visitLists_38 {N : Nat} : (G_impl_visitLists N).sp 38 = sp_impl_elementsOf ∧ (G_impl_visitLists N).lend 38 = lend_impl_elementsOf := ⟨rfl, rfl⟩
theorem gs_impl_visitLists_41 {N : Nat} : (G_impl_visitLists N).sp 41 = sp_impl_RepresentativesOf_1 ∧ (G_impl_visitLists N).lend 41 = lend_impl_RepresentativesOf_1 := ⟨rfl, rfl⟩
set_option maxHeartbeats 1000000 in
set_option maxRecDepth 100000 in
theorem runs_impl_visitLists_1_st {N : Nat} (hok : (G_impl_visitLists N).ok Try.prog) (l : List Int) (u : Int) (x : List Int) (e0 : TypeId) (hp1 : l.length ≤ 6) (hp2 : ∀ j, j < l.length → 0 ≤ l.getD j 0 ∧ l.getD j 0 ≤ 63) (hp3 : 0 ≤ u ∧ u ≤ 63) (hp4 : x.length ≤ l.length) (hp5 : e0 = 3) (hc : x.length = l.length) (hm : l.length - x.length = N) : ARuns Try.prog 40 [.sl none (.ints .i64 l), .int .i64 u, .sl none (.ints .i64 x), .clo 41 [.ptr 0 0, .ptr 1 0]] [.box [.sl (some e0) (.ints .i64 [])], .box [.bool false]] (.bool false) [.box [.prm 2 (.ints .i64 x)], .box [.bool true]] := by
  subst hm
  refine ARuns_bcL hok is_impl_visitLists (by simp) fun hl hlB => ?_
  simp only [kcode_at, kreg_at, bc_skip, bc_seq, bc_cond, bc_block, bc_exit, bc_ret, bc_region, lkX_cons, acond_tmp, aCase_t, aCase_f, aCase_b, afin_nil, cvE_some, resL, resV, resC, cv, cvL, pack, entryE, inPrm, Option.getD_some, acall_clo, add_sp, add_lend, kcall_nil, selOf, selC, selA, inArgs, inA, inL, okA, okL, okBx, okC, outA, outL, outU, outB, deep, deepL, boxIds, AV.bid, List.map_nil, List.map_cons, List.all_nil, List.all_cons, BEq.rfl, Bool.and_true, Bool.true_and, List.append_nil, aops_nil, aops_plain, aops_guard, kont_at, yes_at, no_at, aop_move, aop_assign, aop_pick, aop_alloc, aop_box, aop_build, aop_buildSlice, aop_load, aop_store, aop_nilCheck, aop_binOp, aop_unOp, aop_convert, aop_fieldAddr, aop_indexAddr, aop_slice, aop_extract, aop_makeSlice, aop_len, aop_max, aMax_int, slTy2, SC0, aop_append, aop_call, evalE, getE, putE, getB, setB, St.put, setsB, nth, AV.ofV, AV.blk, AV.bid, AV.one, SC.len, SC.get, List.length_nil, List.length_cons, Nat.reduceEqDiff, Nat.reduceAdd, ↓reduceIte, true_and, and_true, Bool.true_eq_false, Bool.false_eq_true, false_imp_iff, true_imp_iff, decide_eq_true_eq, Bool.not_eq_true', Bool.not_eq_false', decide_eq_false_iff_not, Option.isSome, List.nil_append, List.cons_append, aGuardO_some, aGuard_tt, aGuard_tf, aGuard_ft, aGuard_ff, aGuard_tb, aGuard_fb, aGuard_ts, aGuard_fs, aPick_b, aPick_t, aPick_f, aAlloc_one, aAlloc_flat, aBox_some, aBuild_flat, aInt_add, aBin_add, aInt_sub, aBin_sub, aInt_mul, aBin_mul, aInt_quo, aBin_quo, aInt_rem, aBin_rem, aInt_and, aBin_and, aInt_or, aBin_or, aInt_xor, aBin_xor, aInt_andNot, aBin_andNot, aInt_eql, aBin_eql, aInt_neq, aBin_neq, aInt_lss, aBin_lss, aInt_leq, aBin_leq, aInt_gtr, aBin_gtr, aInt_geq, aBin_geq, aBin_shl, aBin_shr, aShift_shl, aShift_shr, aBin_be1, aBin_bn1, aBin_be2, aBin_bn2, aBin_be3, aBin_bn3, aBin_be4, aBin_bn4, aBin_be5, aBin_bn5, aBin_be6, aBin_bn6, aBin_be7, aBin_bn7, aBin_be8, aBin_bn8, aBin_be9, aBin_bn9, aUn_b, aUn_t, aUn_f, aUn_i, aNil_ptr, aNil_pv, aConv_int, aField_ptr, aField_pv, aIdx_sl, aIdx_prm, aIdx_row, aIdx_drow, aMake_i, aMake_s, aExtr_tup, aLen_ref, aLen_nil, aLen_sl, aLen_prm, aLen_str, aBuildL_some, aBuildS_some, aLoad_1b, aLoad_1d, aLoad_fb, aLoad_fd, aLoad_1p, aLoad_fp, aLoad_ep, aLoad_rr, aLoad_rd, aStore_1, aStore_f, aStore_r, aApp_some, aAppend_nil, aAppend_ref, aSlice_h, aSlice_l, aSlice_lh, aop_slice3, aSlice3_r, aop_field, aFld_agg, aBinW_f, aBinW_t, aWrap_mul, aWrap_add, isW_tmp, isW_mulc, isW_addc, isW_sub, isW_quo, isW_rem, isW_and, isW_or, isW_xor, isW_andNot, isW_shl, isW_shr, isW_eql, isW_neq, isW_lss, isW_leq, isW_gtr, isW_geq, Int.reduceLT, aBinW_dF, aBinW_dT, bc_draw, kregD_at, aopsD_nil, aopsD_plain, aopsD_guard, kontD_at, contD_at, yesD_at, noD_at, splD_bool, splD_undef, splD_skip, splD_int, splD_tt, splD_ff, splD_str, splD_nil, splD_sl, splD_prm, splD_ref, splD_ptr, splD_rp, splD_ep, splD_pv, splD_agg, splD_tup, splD_clo, gD_tt, gD_tf, gD_ft, gD_ff, gD_ts, gD_fs, slotO_some, addTr_nil, addTr_cons, memQ_nil, memQ_cons, clash_nil, clash_cons, regC_none, regC_nil, regC_cons, regR_nil, regR_cons, Int.toNat_zero, Int.toNat_one, rng0, rng1, rng2, rng3, rng4, SC.take, SC.drop, mp_nil, acond_ct, acond_cf, mp_one0, mp_one1, mp_one2, mp_one3, kcall_one, liveB_row, liveB_box, idx, cont, still, dies, lend, lendA, lendDies, snocs, SC.snoc, SC.app, meet, AV.cells, fillA, List.getD_cons_zero, List.getD_cons_succ, List.set_cons_zero, List.set_cons_succ, List.length_singleton, Nat.le_refl, Nat.lt_irrefl, Nat.reduceLT, Nat.reduceLeDiff, Option.map_some, Option.map_none, List.flatMap_nil, List.flatMap_cons, Nat.zero_add, BEq.rfl, kcall_two, mp_two0, mp_two1, mp_two2, mp_two3, mp_two4, aop_makeFunc, plainA, Bool.true_and, sl3, ty3, un3, sl49, ty49, un49, sl71, ty71, un71, sl69, ty69, un69, sl5, ty5, un5, sl2, ty2, un2, sl21, ty21, un21, sl4, ty4, un4, sl9, un9, sl22, ty22, un22, sl31, ty31, un31, sl36, sl53, ty38, sl38, ty41, sl41, inR64, inRu64, inRu32, gs_impl_visitLists_40, atR_impl_visitLists, lend_impl_visitLists, gs_impl_visitLists_38, at_impl_elementsOf, lend_impl_elementsOf, gs_impl_visitLists_41, at_impl_RepresentativesOf_1, lend_impl_RepresentativesOf_1, Try.f40]
  refine ⟨fun h => ?_, fun h => absurd h (by omega)⟩
  ((repeat' apply And.intro) <;> first | exact afinL_of [] [0, 1] rfl rfl (by simp only [resL, resV, resC, getE, putE, getB, setB, lifts, liftOne, cellsOfB, List.length_cons, List.length_nil, List.nil_append, List.cons_append, Nat.reduceAdd, Nat.reduceEqDiff, ↓reduceIte, ty3, ty49, ty71, ty69, ty5, ty2, ty21, ty4, ty22, ty31, ty38, ty41]; rfl) (by simp [St.conv, St.bf, getE, putE, getB, cv, cvL, cvB, idx, still, pack, lifts, liftOne, cellsOfB, setB] <;> first | assumption | rfl | simp [SC.len]) (by simp [St.conv, St.bf, getE, putE, getB, cv, cvL, cvB, idx, still, pack, lifts, liftOne, cellsOfB, setB] <;> first | assumption | rfl | simp [SC.len]) | rfl | omega | assumption)
set_option maxHeartbeats 1000000 in
set_option maxRecDepth 100000 in
theorem runs_impl_visitLists_2_st {N : Nat} (hok : (G_impl_visitLists N).ok Try.prog) (l : List Int) (u : Int) (x : List Int) (e0 : TypeId) (hp1 : l.length ≤ 6) (hp2 : ∀ j, j < l.length → 0 ≤ l.getD j 0 ∧ l.getD j 0 ≤ 63) (hp3 : 0 ≤ u ∧ u ≤ 63) (hp4 : x.length ≤ l.length) (hp5 : e0 = 3) (hc : ¬ x.length = l.length) (hm : l.length - x.length = N) : ARuns Try.prog 40 [.sl none (.ints .i64 l), .int .i64 u, .sl none (.ints .i64 x), .clo 41 [.ptr 0 0, .ptr 1 0]] [.box [.sl (some e0) (.ints .i64 [])], .box [.bool false]] (.bool (!opB (repO (l.drop x.length) u.toNat x))) [.box [.sl (some 3) (.ints .i64 (opL (repO (l.drop x.length) u.toNat x)))], .box [.bool (opB (repO (l.drop x.length) u.toNat x))]] := by
  subst hm
  refine ARuns_bcL hok is_impl_visitLists (by simp) fun hl hlB => ?_
  simp only [kcode_at, kreg_at, bc_skip, bc_seq, bc_cond, bc_block, bc_exit, bc_ret, bc_region, lkX_cons, acond_tmp, aCase_t, aCase_f, aCase_b, afin_nil, cvE_some, resL, resV, resC, cv, cvL, pack, entryE, inPrm, Option.getD_some, acall_clo, add_sp, add_lend, kcall_nil, selOf, selC, selA, inArgs, inA, inL, okA, okL, okBx, okC, outA, outL, outU, outB, deep, deepL, boxIds, AV.bid, List.map_nil, List.map_cons, List.all_nil, List.all_cons, BEq.rfl, Bool.and_true, Bool.true_and, List.append_nil, aops_nil, aops_plain, aops_guard, kont_at, yes_at, no_at, aop_move, aop_assign, aop_pick, aop_alloc, aop_box, aop_build, aop_buildSlice, aop_load, aop_store, aop_nilCheck, aop_binOp, aop_unOp, aop_convert, aop_fieldAddr, aop_indexAddr, aop_slice, aop_extract, aop_makeSlice, aop_len, aop_max, aMax_int, slTy2, SC0, aop_append, aop_call, evalE, getE, putE, getB, setB, St.put, setsB, nth, AV.ofV, AV.blk, AV.bid, AV.one, SC.len, SC.get, List.length_nil, List.length_cons, Nat.reduceEqDiff, Nat.reduceAdd, ↓reduceIte, true_and, and_true, Bool.true_eq_false, Bool.false_eq_true, false_imp_iff, true_imp_iff, decide_eq_true_eq, Bool.not_eq_true', Bool.not_eq_false', decide_eq_false_iff_not, Option.isSome, List.nil_append, List.cons_append, aGuardO_some, aGuard_tt, aGuard_tf, aGuard_ft, aGuard_ff, aGuard_tb, aGuard_fb, aGuard_ts, aGuard_fs, aPick_b, aPick_t, aPick_f, aAlloc_one, aAlloc_flat, aBox_some, aBuild_flat, aInt_add, aBin_add, aInt_sub, aBin_sub, aInt_mul, aBin_mul, aInt_quo, aBin_quo, aInt_rem, aBin_rem, aInt_and, aBin_and, aInt_or, aBin_or, aInt_xor, aBin_xor, aInt_andNot, aBin_andNot, aInt_eql, aBin_eql, aInt_neq, aBin_neq, aInt_lss, aBin_lss, aInt_leq, aBin_leq, aInt_gtr, aBin_gtr, aInt_geq, aBin_geq, aBin_shl, aBin_shr, aShift_shl, aShift_shr, aBin_be1, aBin_bn1, aBin_be2, aBin_bn2, aBin_be3, aBin_bn3, aBin_be4, aBin_bn4, aBin_be5, aBin_bn5, aBin_be6, aBin_bn6, aBin_be7, aBin_bn7, aBin_be8, aBin_bn8, aBin_be9, aBin_bn9, aUn_b, aUn_t, aUn_f, aUn_i, aNil_ptr, aNil_pv, aConv_int, aField_ptr, aField_pv, aIdx_sl, aIdx_prm, aIdx_row, aIdx_drow, aMake_i, aMake_s, aExtr_tup, aLen_ref, aLen_nil, aLen_sl, aLen_prm, aLen_str, aBuildL_some, aBuildS_some, aLoad_1b, aLoad_1d, aLoad_fb, aLoad_fd, aLoad_1p, aLoad_fp, aLoad_ep, aLoad_rr, aLoad_rd, aStore_1, aStore_f, aStore_r, aApp_some, aAppend_nil, aAppend_ref, aSlice_h, aSlice_l, aSlice_lh, aop_slice3, aSlice3_r, aop_field, aFld_agg, aBinW_f, aBinW_t, aWrap_mul, aWrap_add, isW_tmp, isW_mulc, isW_addc, isW_sub, isW_quo, isW_rem, isW_and, isW_or, isW_xor, isW_andNot, isW_shl, isW_shr, isW_eql, isW_neq, isW_lss, isW_leq, isW_gtr, isW_geq, Int.reduceLT, aBinW_dF, aBinW_dT, bc_draw, kregD_at, aopsD_nil, aopsD_plain, aopsD_guard, kontD_at, contD_at, yesD_at, noD_at, splD_bool, splD_undef, splD_skip, splD_int, splD_tt, splD_ff, splD_str, splD_nil, splD_sl, splD_prm, splD_ref, splD_ptr, splD_rp, splD_ep, splD_pv, splD_agg, splD_tup, splD_clo, gD_tt, gD_tf, gD_ft, gD_ff, gD_ts, gD_fs, slotO_some, addTr_nil, addTr_cons, memQ_nil, memQ_cons, clash_nil, clash_cons, regC_none, regC_nil, regC_cons, regR_nil, regR_cons, Int.toNat_zero, Int.toNat_one, rng0, rng1, rng2, rng3, rng4, SC.take, SC.drop, mp_nil, acond_ct, acond_cf, mp_one0, mp_one1, mp_one2, mp_one3, kcall_one, liveB_row, liveB_box, idx, cont, still, dies, lend, lendA, lendDies, snocs, SC.snoc, SC.app, meet, AV.cells, fillA, List.getD_cons_zero, List.getD_cons_succ, List.set_cons_zero, List.set_cons_succ, List.length_singleton, Nat.le_refl, Nat.lt_irrefl, Nat.reduceLT, Nat.reduceLeDiff, Option.map_some, Option.map_none, List.flatMap_nil, List.flatMap_cons, Nat.zero_add, BEq.rfl, kcall_two, mp_two0, mp_two1, mp_two2, mp_two3, mp_two4, aop_makeFunc, plainA, Bool.true_and, sl3, ty3, un3, sl49, ty49, un49, sl71, ty71, un71, sl69, ty69, un69, sl5, ty5, un5, sl2, ty2, un2, sl21, ty21, un21, sl4, ty4, un4, sl9, un9, sl22, ty22, un22, sl31, ty31, un31, sl36, sl53, ty38, sl38, ty41, sl41, inR64, inRu64, inRu32, gs_impl_visitLists_40, atR_impl_visitLists, lend_impl_visitLists, gs_impl_visitLists_38, at_impl_elementsOf, lend_impl_elementsOf, gs_impl_visitLists_41, at_impl_RepresentativesOf_1, lend_impl_RepresentativesOf_1, Try.f40]
  subst hp5
  obtain ⟨U, rfl⟩ := Int.eq_ofNat_of_zero_le hp3.1
  simp only [Int.toNat_natCast] at *
  refine ⟨fun h => absurd h (by omega), fun h => ?_⟩
  have hI : x.length < l.length := by omega
  have hs := hp2 x.length hI
  rw [drop_getD hI, repO_cons]
  generalize hg : l.getD x.length 0 = s at *
  obtain ⟨S, rfl⟩ := Int.eq_ofNat_of_zero_le hs.1
  have hfree := freeF_le (s := (S : Int)) (u := U)
  have hbn : bandn .i64 (S : Int) (U : Int) = (freeF (S : Int) U : Int) := by rw [bandn_nat (by omega) (by omega)]; simp [freeF]
  rw [hbn]
  simp only [Int.toNat_natCast] at hfree
  refine ⟨by omega, by omega, ?_⟩
  have hel : elemsL (freeF (S : Int) U : Int) = elemsF (freeF (S : Int) U) 62 := by simp [elemsL]
  rw [hel]
  have hmem := @elemsF_mem (freeF (S : Int) U) 6
  rw [← elems6 (s := freeF (S : Int) U) (by omega)] at hmem
  have hll := elemsF_len (s := freeF (S : Int) U) (n := 62)
  generalize elemsF (freeF (S : Int) U) 62 = L at *
  generalize hG : (fun e : Int => repO (l.drop (x.length + 1)) (U ||| 2 ^ e.toNat) (x ++ [e])) = G
  have hGe : ∀ e : Int, repO (l.drop (x.length + 1)) (U ||| 2 ^ e.toNat) (x ++ [e]) = G e := fun e => by rw [← hG]
  refine bc_loop (fun j : Nat => j ≤ L.length ∧ fsO G (L.take j) = none)
    (fun j => ⟨[(0, .prm 0 (.ints .i64 l)), (1, .int .i64 U), (2, .prm 2 (.ints .i64 x)), (3, .clo 41 [.ptr 0 0, .ptr 1 0]), (27, .ref 2 L.length), (28, .int .i64 L.length), (29, .int .i64 j)],
      [.box [.sl (some 3) (.ints .i64 [])], .box [.bool false], .row 3 (.ints .i64 L)]⟩) (fun j => L.length - j)
    [0, 1, 2, 3, 27, 28, 29] [0, 1, 2] 0 rfl (by simp [St.conv, St.bf, getE, putE, getB, cv, cvL, cvB, idx, still, pack, lifts, liftOne, cellsOfB, setB]) (by simp [fsO]) fun j ⟨hj, hno⟩ => ?_
  simp only [kcode_at, kreg_at, bc_skip, bc_seq, bc_cond, bc_block, bc_exit, bc_ret, bc_region, lkX_cons, acond_tmp, aCase_t, aCase_f, aCase_b, afin_nil, cvE_some, resL, resV, resC, cv, cvL, pack, entryE, inPrm, Option.getD_some, acall_clo, add_sp, add_lend, kcall_nil, selOf, selC, selA, inArgs, inA, inL, okA, okL, okBx, okC, outA, outL, outU, outB, deep, deepL, boxIds, AV.bid, List.map_nil, List.map_cons, List.all_nil, List.all_cons, BEq.rfl, Bool.and_true, Bool.true_and, List.append_nil, aops_nil, aops_plain, aops_guard, kont_at, yes_at, no_at, aop_move, aop_assign, aop_pick, aop_alloc, aop_box, aop_build, aop_buildSlice, aop_load, aop_store, aop_nilCheck, aop_binOp, aop_unOp, aop_convert, aop_fieldAddr, aop_indexAddr, aop_slice, aop_extract, aop_makeSlice, aop_len, aop_max, aMax_int, slTy2, SC0, aop_append, aop_call, evalE, getE, putE, getB, setB, St.put, setsB, nth, AV.ofV, AV.blk, AV.bid, AV.one, SC.len, SC.get, List.length_nil, List.length_cons, Nat.reduceEqDiff, Nat.reduceAdd, ↓reduceIte, true_and, and_true, Bool.true_eq_false, Bool.false_eq_true, false_imp_iff, true_imp_iff, decide_eq_true_eq, Bool.not_eq_true', Bool.not_eq_false', decide_eq_false_iff_not, Option.isSome, List.nil_append, List.cons_append, aGuardO_some, aGuard_tt, aGuard_tf, aGuard_ft, aGuard_ff, aGuard_tb, aGuard_fb, aGuard_ts, aGuard_fs, aPick_b, aPick_t, aPick_f, aAlloc_one, aAlloc_flat, aBox_some, aBuild_flat, aInt_add, aBin_add, aInt_sub, aBin_sub, aInt_mul, aBin_mul, aInt_quo, aBin_quo, aInt_rem, aBin_rem, aInt_and, aBin_and, aInt_or, aBin_or, aInt_xor, aBin_xor, aInt_andNot, aBin_andNot, aInt_eql, aBin_eql, aInt_neq, aBin_neq, aInt_lss, aBin_lss, aInt_leq, aBin_leq, aInt_gtr, aBin_gtr, aInt_geq, aBin_geq, aBin_shl, aBin_shr, aShift_shl, aShift_shr, aBin_be1, aBin_bn1, aBin_be2, aBin_bn2, aBin_be3, aBin_bn3, aBin_be4, aBin_bn4, aBin_be5, aBin_bn5, aBin_be6, aBin_bn6, aBin_be7, aBin_bn7, aBin_be8, aBin_bn8, aBin_be9, aBin_bn9, aUn_b, aUn_t, aUn_f, aUn_i, aNil_ptr, aNil_pv, aConv_int, aField_ptr, aField_pv, aIdx_sl, aIdx_prm, aIdx_row, aIdx_drow, aMake_i, aMake_s, aExtr_tup, aLen_ref, aLen_nil, aLen_sl, aLen_prm, aLen_str, aBuildL_some, aBuildS_some, aLoad_1b, aLoad_1d, aLoad_fb, aLoad_fd, aLoad_1p, aLoad_fp, aLoad_ep, aLoad_rr, aLoad_rd, aStore_1, aStore_f, aStore_r, aApp_some, aAppend_nil, aAppend_ref, aSlice_h, aSlice_l, aSlice_lh, aop_slice3, aSlice3_r, aop_field, aFld_agg, aBinW_f, aBinW_t, aWrap_mul, aWrap_add, isW_tmp, isW_mulc, isW_addc, isW_sub, isW_quo, isW_rem, isW_and, isW_or, isW_xor, isW_andNot, isW_shl, isW_shr, isW_eql, isW_neq, isW_lss, isW_leq, isW_gtr, isW_geq, Int.reduceLT, aBinW_dF, aBinW_dT, bc_draw, kregD_at, aopsD_nil, aopsD_plain, aopsD_guard, kontD_at, contD_at, yesD_at, noD_at, splD_bool, splD_undef, splD_skip, splD_int, splD_tt, splD_ff, splD_str, splD_nil, splD_sl, splD_prm, splD_ref, splD_ptr, splD_rp, splD_ep, splD_pv, splD_agg, splD_tup, splD_clo, gD_tt, gD_tf, gD_ft, gD_ff, gD_ts, gD_fs, slotO_some, addTr_nil, addTr_cons, memQ_nil, memQ_cons, clash_nil, clash_cons, regC_none, regC_nil, regC_cons, regR_nil, regR_cons, Int.toNat_zero, Int.toNat_one, rng0, rng1, rng2, rng3, rng4, SC.take, SC.drop, mp_nil, acond_ct, acond_cf, mp_one0, mp_one1, mp_one2, mp_one3, kcall_one, liveB_row, liveB_box, idx, cont, still, dies, lend, lendA, lendDies, snocs, SC.snoc, SC.app, meet, AV.cells, fillA, List.getD_cons_zero, List.getD_cons_succ, List.set_cons_zero, List.set_cons_succ, List.length_singleton, Nat.le_refl, Nat.lt_irrefl, Nat.reduceLT, Nat.reduceLeDiff, Option.map_some, Option.map_none, List.flatMap_nil, List.flatMap_cons, Nat.zero_add, BEq.rfl, kcall_two, mp_two0, mp_two1, mp_two2, mp_two3, mp_two4, aop_makeFunc, plainA, Bool.true_and, sl3, ty3, un3, sl49, ty49, un49, sl71, ty71, un71, sl69, ty69, un69, sl5, ty5, un5, sl2, ty2, un2, sl21, ty21, un21, sl4, ty4, un4, sl9, un9, sl22, ty22, un22, sl31, ty31, un31, sl36, sl53, ty38, sl38, ty41, sl41, inR64, inRu64, inRu32, gs_impl_visitLists_40, atR_impl_visitLists, lend_impl_visitLists, gs_impl_visitLists_38, at_impl_elementsOf, lend_impl_elementsOf, gs_impl_visitLists_41, at_impl_RepresentativesOf_1, lend_impl_RepresentativesOf_1, Int.toNat_natCast, List.length_append, List.length_singleton, List.length_cons, List.length_nil]
  simp only [IntKind.bits]
  refine ⟨fun hlt => ?_, fun hge => ?_⟩
  · have hm := hmem (getD_mem0 (l := L) (i := j) (by omega))
    have hor := orBit_nat (u := U) (e := L.getD j 0) (by omega) (by omega)
    have hpw := pow_le62 (e := L.getD j 0) (by omega)
    have hor2 := or_lt64 (u := U) (e := (L.getD j 0).toNat) (by omega) (by omega)
    have hsp := split_at (L := L) (j := j) (by omega)
    have htk := take_succ_getD (xs := L) (i := j) (by omega)
    rw [hor, Int.toNat_natCast, hGe]
    generalize hG2 : L.getD j 0 = e at *
    have hgo : G e = none → fsO G (L.take (j + 1)) = none := fun hn => by rw [htk]; exact fsO_on hno hn
    have hfd : ∀ y, G e = some y → fsO G L = some y := fun y hy => by rw [hsp]; exact fsO_here hno hy
    (repeat (first | (refine And.intro ?_ ?_; · omega) | (refine And.intro ?_ ?_; · ((repeat' apply And.intro) <;> (show ordB _ _ _ = true; kernel_rfl))) | fail))
    refine ⟨fun hq => ?_, fun hq => ?_⟩
    · have hy : G e = some (x ++ [e]) := by rw [← hGe, List.drop_of_length_le (by omega)]; rfl
      rw [hfd _ hy]
      simp only [opL, opB]
      refine ⟨rfl, ?_⟩
      ((repeat' apply And.intro) <;> first | exact afinL_of [] [0, 1] rfl rfl (by simp only [resL, resV, resC, getE, putE, getB, setB, lifts, liftOne, cellsOfB, List.length_cons, List.length_nil, List.nil_append, List.cons_append, Nat.reduceAdd, Nat.reduceEqDiff, ↓reduceIte, ty3, ty49, ty71, ty69, ty5, ty2, ty21, ty4, ty22, ty31, ty38, ty41]; rfl) (by simp [St.conv, St.bf, getE, putE, getB, cv, cvL, cvB, idx, still, pack, lifts, liftOne, cellsOfB, setB] <;> first | assumption | rfl | simp [SC.len]) (by simp [St.conv, St.bf, getE, putE, getB, cv, cvL, cvB, idx, still, pack, lifts, liftOne, cellsOfB, setB] <;> first | assumption | rfl | simp [SC.len]) | rfl | omega | assumption)
    · refine ⟨rfl, ?_⟩
      cases hy : G e with
      | some y =>
        rw [hfd y hy]
        simp only [opL, opB]
        refine ⟨fun _ => ?_, fun h => (by cases h)⟩
        ((repeat' apply And.intro) <;> first | exact afinL_of [] [0, 1] rfl rfl (by simp only [resL, resV, resC, getE, putE, getB, setB, lifts, liftOne, cellsOfB, List.length_cons, List.length_nil, List.nil_append, List.cons_append, Nat.reduceAdd, Nat.reduceEqDiff, ↓reduceIte, ty3, ty49, ty71, ty69, ty5, ty2, ty21, ty4, ty22, ty31, ty38, ty41]; rfl) (by simp [St.conv, St.bf, getE, putE, getB, cv, cvL, cvB, idx, still, pack, lifts, liftOne, cellsOfB, setB] <;> first | assumption | rfl | simp [SC.len]) (by simp [St.conv, St.bf, getE, putE, getB, cv, cvL, cvB, idx, still, pack, lifts, liftOne, cellsOfB, setB] <;> first | assumption | rfl | simp [SC.len]) | rfl | omega | assumption)
      | none =>
        refine ⟨fun h => (by cases h), fun _ => ⟨by omega, klp_of (j + 1) (by simp [St.conv, St.bf, getE, putE, getB, cv, cvL, cvB, idx, still, pack, lifts, liftOne, cellsOfB, setB]; exact ⟨rfl, rfl⟩) ⟨by omega, hgo hy⟩ (by omega)⟩⟩
  · rw [List.take_of_length_le (by omega)] at hno
    rw [hno]
    simp only [opL, opB]
    ((repeat' apply And.intro) <;> first | exact afinL_of [] [0, 1] rfl rfl (by simp only [resL, resV, resC, getE, putE, getB, setB, lifts, liftOne, cellsOfB, List.length_cons, List.length_nil, List.nil_append, List.cons_append, Nat.reduceAdd, Nat.reduceEqDiff, ↓reduceIte, ty3, ty49, ty71, ty69, ty5, ty2, ty21, ty4, ty22, ty31, ty38, ty41]; rfl) (by simp [St.conv, St.bf, getE, putE, getB, cv, cvL, cvB, idx, still, pack, lifts, liftOne, cellsOfB, setB] <;> first | assumption | rfl | simp [SC.len]) (by simp [St.conv, St.bf, getE, putE, getB, cv, cvL, cvB, idx, still, pack, lifts, liftOne, cellsOfB, setB] <;> first | assumption | rfl | simp [SC.len]) | rfl | omega | assumption)
theorem runs_impl_visitLists_aux : ∀ (N : Nat) (l : List Int) (u : Int) (x : List Int) (e0 : TypeId) (hp1 : l.length ≤ 6) (hp2 : ∀ j, j < l.length → 0 ≤ l.getD j 0 ∧ l.getD j 0 ≤ 63) (hp3 : 0 ≤ u ∧ u ≤ 63) (hp4 : x.length ≤ l.length) (hp5 : e0 = 3) (hm : l.length - x.length = N), ((x.length = l.length) → ARuns Try.prog 40 [.sl none (.ints .i64 l), .int .i64 u, .sl none (.ints .i64 x), .clo 41 [.ptr 0 0, .ptr 1 0]] [.box [.sl (some e0) (.ints .i64 [])], .box [.bool false]] (.bool false) [.box [.prm 2 (.ints .i64 x)], .box [.bool true]]) ∧ ((¬ x.length = l.length) → ARuns Try.prog 40 [.sl none (.ints .i64 l), .int .i64 u, .sl none (.ints .i64 x), .clo 41 [.ptr 0 0, .ptr 1 0]] [.box [.sl (some e0) (.ints .i64 [])], .box [.bool false]] (.bool (!opB (repO (l.drop x.length) u.toNat x))) [.box [.sl (some 3) (.ints .i64 (opL (repO (l.drop x.length) u.toNat x)))], .box [.bool (opB (repO (l.drop x.length) u.toNat x))]]) := by
  intro N
  induction N using Nat.strongRecOn with
  | _ N ih =>
  have hok : (G_impl_visitLists N).ok Try.prog := Gm.add_ok (Gm.add_ok (Gm.add_ok Gm.none_ok ok_impl_elementsOf) ok_impl_RepresentativesOf_1) (by
    intro args giv K hk
    unfold spR_impl_visitLists at hk
    split at hk
    · obtain ⟨hlt, hp1, hp2, hp3, hp4, hp5, hk1, hk2⟩ := hk
      exact pk_em (fun hc => ⟨_, _, (ih _ hlt _ _ _ _ hp1 hp2 hp3 hp4 hp5 rfl).1 hc, hk1 hc⟩) (fun hc => ⟨_, _, (ih _ hlt _ _ _ _ hp1 hp2 hp3 hp4 hp5 rfl).2 hc, hk2 hc⟩)
    · exact hk.elim)
  intro l u x e0 hp1 hp2 hp3 hp4 hp5 hm
  exact ⟨fun hc => runs_impl_visitLists_1_st hok l u x e0 hp1 hp2 hp3 hp4 hp5 hc hm, fun hc => runs_impl_visitLists_2_st hok l u x e0 hp1 hp2 hp3 hp4 hp5 hc hm⟩
theorem runs_impl_visitLists_1 (l : List Int) (u : Int) (x : List Int) (e0 : TypeId) (hp1 : l.length ≤ 6) (hp2 : ∀ j, j < l.length → 0 ≤ l.getD j 0 ∧ l.getD j 0 ≤ 63) (hp3 : 0 ≤ u ∧ u ≤ 63) (hp4 : x.length ≤ l.length) (hp5 : e0 = 3) (hc : x.length = l.length) : ARuns Try.prog 40 [.sl none (.ints .i64 l), .int .i64 u, .sl none (.ints .i64 x), .clo 41 [.ptr 0 0, .ptr 1 0]] [.box [.sl (some e0) (.ints .i64 [])], .box [.bool false]] (.bool false) [.box [.prm 2 (.ints .i64 x)], .box [.bool true]] := (runs_impl_visitLists_aux _ l u x e0 hp1 hp2 hp3 hp4 hp5 rfl).1 hc
theorem runs_impl_visitLists_2 (l : List Int) (u : Int) (x : List Int) (e0 : TypeId) (hp1 : l.length ≤ 6) (hp2 : ∀ j, j < l.length → 0 ≤ l.getD j 0 ∧ l.getD j 0 ≤ 63) (hp3 : 0 ≤ u ∧ u ≤ 63) (hp4 : x.length ≤ l.length) (hp5 : e0 = 3) (hc : ¬ x.length = l.length) : ARuns Try.prog 40 [.sl none (.ints .i64 l), .int .i64 u, .sl none (.ints .i64 x), .clo 41 [.ptr 0 0, .ptr 1 0]] [.box [.sl (some e0) (.ints .i64 [])], .box [.bool false]] (.bool (!opB (repO (l.drop x.length) u.toNat x))) [.box [.sl (some 3) (.ints .i64 (opL (repO (l.drop x.length) u.toNat x)))], .box [.bool (opB (repO (l.drop x.length) u.toNat x))]] := (runs_impl_visitLists_aux _ l u x e0 hp1 hp2 hp3 hp4 hp5 rfl).2 hc
set_option maxHeartbeats 1000000 in
set_option maxRecDepth 100000 in
theorem runs_impl_visitLists_v2_1 (l : List Int) (u : Int) (x : List Int) (hp1 : l.length ≤ 6) (hp2 : ∀ j, j < l.length → 0 ≤ l.getD j 0 ∧ l.getD j 0 ≤ 63) (hp3 : 0 ≤ u ∧ u ≤ 63) (hp4 : x.length ≤ l.length) (hc : x.length = l.length) : ARuns Try.prog 40 [.sl none (.ints .i64 l), .int .i64 u, .sl none (.ints .i64 x), .clo 41 [.ptr 0 0, .ptr 1 0]] [.box [.nil], .box [.ff]] (.bool false) [.box [.prm 2 (.ints .i64 x)], .box [.bool true]] := by
  exact ARuns_nilsG (runs_impl_visitLists_1 l u x 3 hp1 hp2 hp3 hp4 rfl hc) ⟨_, _, rfl, ⟨_, rfl, _, _, rfl, .inr (.inl ⟨rfl, _, _, rfl, rfl⟩), rfl⟩, _, _, rfl, ⟨_, rfl, _, _, rfl, .inr (.inr ⟨rfl, rfl⟩), rfl⟩, rfl⟩
set_option maxHeartbeats 1000000 in
set_option maxRecDepth 100000 in
theorem runs_impl_visitLists_v2_2 (l : List Int) (u : Int) (x : List Int) (hp1 : l.length ≤ 6) (hp2 : ∀ j, j < l.length → 0 ≤ l.getD j 0 ∧ l.getD j 0 ≤ 63) (hp3 : 0 ≤ u ∧ u ≤ 63) (hp4 : x.length ≤ l.length) (hc : ¬ x.length = l.length) : ARuns Try.prog 40 [.sl none (.ints .i64 l), .int .i64 u, .sl none (.ints .i64 x), .clo 41 [.ptr 0 0, .ptr 1 0]] [.box [.nil], .box [.ff]] (.bool (!opB (repO (l.drop x.length) u.toNat x))) [.box [.sl (some 3) (.ints .i64 (opL (repO (l.drop x.length) u.toNat x)))], .box [.bool (opB (repO (l.drop x.length) u.toNat x))]] := by
  exact ARuns_nilsG (runs_impl_visitLists_2 l u x 3 hp1 hp2 hp3 hp4 rfl hc) ⟨_, _, rfl, ⟨_, rfl, _, _, rfl, .inr (.inl ⟨rfl, _, _, rfl, rfl⟩), rfl⟩, _, _, rfl, ⟨_, rfl, _, _, rfl, .inr (.inr ⟨rfl, rfl⟩), rfl⟩, rfl⟩
def sp_impl_visitLists : List AV → List Bx → (AV → List Bx → Prop) → Prop
  | [.sl none (.ints .i64 l), .int .i64 u, .sl none (.ints .i64 x), .clo 41 [.ptr 0 0, .ptr 1 0]], [.box [.sl (some e0) (.ints .i64 [])], .box [.bool false]], K => (l.length ≤ 6) ∧ (∀ j, j < l.length → 0 ≤ l.getD j 0 ∧ l.getD j 0 ≤ 63) ∧ (0 ≤ u ∧ u ≤ 63) ∧ (x.length ≤ l.length) ∧ (e0 = 3) ∧ (x.length = l.length → K (.bool false) [.box [.prm 2 (.ints .i64 x)], .box [.bool true]]) ∧ (¬ x.length = l.length → K (.bool (!opB (repO (l.drop x.length) u.toNat x))) [.box [.sl (some 3) (.ints .i64 (opL (repO (l.drop x.length) u.toNat x)))], .box [.bool (opB (repO (l.drop x.length) u.toNat x))]])
  | [.sl none (.ints .i64 l), .int .i64 u, .sl none (.ints .i64 x), .clo 41 [.ptr 0 0, .ptr 1 0]], [.box [.nil], .box [.ff]], K => (l.length ≤ 6) ∧ (∀ j, j < l.length → 0 ≤ l.getD j 0 ∧ l.getD j 0 ≤ 63) ∧ (0 ≤ u ∧ u ≤ 63) ∧ (x.length ≤ l.length) ∧ (x.length = l.length → K (.bool false) [.box [.prm 2 (.ints .i64 x)], .box [.bool true]]) ∧ (¬ x.length = l.length → K (.bool (!opB (repO (l.drop x.length) u.toNat x))) [.box [.sl (some 3) (.ints .i64 (opL (repO (l.drop x.length) u.toNat x)))], .box [.bool (opB (repO (l.drop x.length) u.toNat x))]])
  | _, _, _ => False
theorem at_impl_visitLists {l : List Int} {u : Int} {x : List Int} {e0 : TypeId} {K : AV → List Bx → Prop} : sp_impl_visitLists [.sl none (.ints .i64 l), .int .i64 u, .sl none (.ints .i64 x), .clo 41 [.ptr 0 0, .ptr 1 0]] [.box [.sl (some e0) (.ints .i64 [])], .box [.bool false]] K = ((l.length ≤ 6) ∧ (∀ j, j < l.length → 0 ≤ l.getD j 0 ∧ l.getD j 0 ≤ 63) ∧ (0 ≤ u ∧ u ≤ 63) ∧ (x.length ≤ l.length) ∧ (e0 = 3) ∧ (x.length = l.length → K (.bool false) [.box [.prm 2 (.ints .i64 x)], .box [.bool true]]) ∧ (¬ x.length = l.length → K (.bool (!opB (repO (l.drop x.length) u.toNat x))) [.box [.sl (some 3) (.ints .i64 (opL (repO (l.drop x.length) u.toNat x)))], .box [.bool (opB (repO (l.drop x.length) u.toNat x))]])) := id rfl
theorem at_impl_visitLists_v2 {l : List Int} {u : Int} {x : List Int} {K : AV → List Bx → Prop} : sp_impl_visitLists [.sl none (.ints .i64 l), .int .i64 u, .sl none (.ints .i64 x), .clo 41 [.ptr 0 0, .ptr 1 0]] [.box [.nil], .box [.ff]] K = ((l.length ≤ 6) ∧ (∀ j, j < l.length → 0 ≤ l.getD j 0 ∧ l.getD j 0 ≤ 63) ∧ (0 ≤ u ∧ u ≤ 63) ∧ (x.length ≤ l.length) ∧ (x.length = l.length → K (.bool false) [.box [.prm 2 (.ints .i64 x)], .box [.bool true]]) ∧ (¬ x.length = l.length → K (.bool (!opB (repO (l.drop x.length) u.toNat x))) [.box [.sl (some 3) (.ints .i64 (opL (repO (l.drop x.length) u.toNat x)))], .box [.bool (opB (repO (l.drop x.length) u.toNat x))]])) := id rfl
theorem ok_impl_visitLists : ∀ args giv K, sp_impl_visitLists args giv K → ∃ r outs, ARuns Try.prog 40 args giv r outs ∧ K r outs := by
  intro args giv K hk
  unfold sp_impl_visitLists at hk
  split at hk
  · obtain ⟨hp1, hp2, hp3, hp4, hp5, hk1, hk2⟩ := hk
    exact pk_em (fun hc => ⟨_, _, runs_impl_visitLists_1 _ _ _ _ hp1 hp2 hp3 hp4 hp5 hc, hk1 hc⟩) (fun hc => ⟨_, _, runs_impl_visitLists_2 _ _ _ _ hp1 hp2 hp3 hp4 hp5 hc, hk2 hc⟩)
  · obtain ⟨hp1, hp2, hp3, hp4, hk1, hk2⟩ := hk
    exact pk_em (fun hc => ⟨_, _, runs_impl_visitLists_v2_1 _ _ _ hp1 hp2 hp3 hp4 hc, hk1 hc⟩) (fun hc => ⟨_, _, runs_impl_visitLists_v2_2 _ _ _ hp1 hp2 hp3 hp4 hc, hk2 hc⟩)
  · exact hk.elim
theorem is_impl_RepresentativesOf : FnIs Try.prog 15 17 [.tmp 4, .tmp 5] (Try.f15.body.getD .skip) := ⟨⟨Try.f15, by kernel_rfl, by kernel_rfl, by kernel_rfl, by kernel_rfl⟩, by kernel_rfl, by kernel_rfl⟩
def G_impl_RepresentativesOf : Gm := ((Gm.none.add 37 lend_impl_areFew sp_impl_areFew).add 40 lend_impl_visitLists sp_impl_visitLists)
theorem G_impl_RepresentativesOf_ok : G_impl_RepresentativesOf.ok Try.prog := (Gm.add_ok (Gm.add_ok Gm.none_ok ok_impl_areFew) ok_impl_visitLists)
theorem gs_impl_RepresentativesOf_37 : G_impl_RepresentativesOf.sp 37 = sp_impl_areFew ∧ G_impl_RepresentativesOf.lend 37 = lend_impl_areFew := ⟨rfl, rfl⟩
theorem gs_impl_RepresentativesOf_40 : G_impl_RepresentativesOf.sp 40 = sp_impl_visitLists ∧ G_impl_RepresentativesOf.lend 40 = lend_impl_visitLists := ⟨rfl, rfl⟩
set_option maxHeartbeats 1000000 in
set_option maxRecDepth 100000 in
theorem runs_impl_RepresentativesOf_own (n : Int) (l : List Int) : ARuns Try.prog 15 [.int .i64 n, .sl none (.ints .i64 l)] [] (.tup [.sl (some 3) (.ints .i64 (opL (rpO n l))), .bool (opB (rpO n l))]) [] := by
  refine ARuns_bcL G_impl_RepresentativesOf_ok is_impl_RepresentativesOf (by simp) fun hl hlB => ?_
  simp only [kcode_at, kreg_at, bc_skip, bc_seq, bc_cond, bc_block, bc_exit, bc_ret, bc_region, lkX_cons, acond_tmp, aCase_t, aCase_f, aCase_b, afin_nil, cvE_some, resL, resV, resC, cv, cvL, pack, entryE, inPrm, Option.getD_some, acall_clo, add_sp, add_lend, kcall_nil, selOf, selC, selA, inArgs, inA, inL, okA, okL, okBx, okC, outA, outL, outU, outB, deep, deepL, boxIds, AV.bid, List.map_nil, List.map_cons, List.all_nil, List.all_cons, BEq.rfl, Bool.and_true, Bool.true_and, List.append_nil, aops_nil, aops_plain, aops_guard, kont_at, yes_at, no_at, aop_move, aop_assign, aop_pick, aop_alloc, aop_box, aop_build, aop_buildSlice, aop_load, aop_store, aop_nilCheck, aop_binOp, aop_unOp, aop_convert, aop_fieldAddr, aop_indexAddr, aop_slice, aop_extract, aop_makeSlice, aop_len, aop_max, aMax_int, slTy2, SC0, aop_append, aop_call, evalE, getE, putE, getB, setB, St.put, setsB, nth, AV.ofV, AV.blk, AV.bid, AV.one, SC.len, SC.get, List.length_nil, List.length_cons, Nat.reduceEqDiff, Nat.reduceAdd, ↓reduceIte, true_and, and_true, Bool.true_eq_false, Bool.false_eq_true, false_imp_iff, true_imp_iff, decide_eq_true_eq, Bool.not_eq_true', Bool.not_eq_false', decide_eq_false_iff_not, Option.isSome, List.nil_append, List.cons_append, aGuardO_some, aGuard_tt, aGuard_tf, aGuard_ft, aGuard_ff, aGuard_tb, aGuard_fb, aGuard_ts, aGuard_fs, aPick_b, aPick_t, aPick_f, aAlloc_one, aAlloc_flat, aBox_some, aBuild_flat, aInt_add, aBin_add, aInt_sub, aBin_sub, aInt_mul, aBin_mul, aInt_quo, aBin_quo, aInt_rem, aBin_rem, aInt_and, aBin_and, aInt_or, aBin_or, aInt_xor, aBin_xor, aInt_andNot, aBin_andNot, aInt_eql, aBin_eql, aInt_neq, aBin_neq, aInt_lss, aBin_lss, aInt_leq, aBin_leq, aInt_gtr, aBin_gtr, aInt_geq, aBin_geq, aBin_shl, aBin_shr, aShift_shl, aShift_shr, aBin_be1, aBin_bn1, aBin_be2, aBin_bn2, aBin_be3, aBin_bn3, aBin_be4, aBin_bn4, aBin_be5, aBin_bn5, aBin_be6, aBin_bn6, aBin_be7, aBin_bn7, aBin_be8, aBin_bn8, aBin_be9, aBin_bn9, aUn_b, aUn_t, aUn_f, aUn_i, aNil_ptr, aNil_pv, aConv_int, aField_ptr, aField_pv, aIdx_sl, aIdx_prm, aIdx_row, aIdx_drow, aMake_i, aMake_s, aExtr_tup, aLen_ref, aLen_nil, aLen_sl, aLen_prm, aLen_str, aBuildL_some, aBuildS_some, aLoad_1b, aLoad_1d, aLoad_fb, aLoad_fd, aLoad_1p, aLoad_fp, aLoad_ep, aLoad_rr, aLoad_rd, aStore_1, aStore_f, aStore_r, aApp_some, aAppend_nil, aAppend_ref, aSlice_h, aSlice_l, aSlice_lh, aop_slice3, aSlice3_r, aop_field, aFld_agg, aBinW_f, aBinW_t, aWrap_mul, aWrap_add, isW_tmp, isW_mulc, isW_addc, isW_sub, isW_quo, isW_rem, isW_and, isW_or, isW_xor, isW_andNot, isW_shl, isW_shr, isW_eql, isW_neq, isW_lss, isW_leq, isW_gtr, isW_geq, Int.reduceLT, aBinW_dF, aBinW_dT, bc_draw, kregD_at, aopsD_nil, aopsD_plain, aopsD_guard, kontD_at, contD_at, yesD_at, noD_at, splD_bool, splD_undef, splD_skip, splD_int, splD_tt, splD_ff, splD_str, splD_nil, splD_sl, splD_prm, splD_ref, splD_ptr, splD_rp, splD_ep, splD_pv, splD_agg, splD_tup, splD_clo, gD_tt, gD_tf, gD_ft, gD_ff, gD_ts, gD_fs, slotO_some, addTr_nil, addTr_cons, memQ_nil, memQ_cons, clash_nil, clash_cons, regC_none, regC_nil, regC_cons, regR_nil, regR_cons, Int.toNat_zero, Int.toNat_one, rng0, rng1, rng2, rng3, rng4, SC.take, SC.drop, mp_nil, acond_ct, acond_cf, mp_one0, mp_one1, mp_one2, mp_one3, kcall_one, liveB_row, liveB_box, idx, cont, still, dies, lend, lendA, lendDies, snocs, SC.snoc, SC.app, meet, AV.cells, fillA, List.getD_cons_zero, List.getD_cons_succ, List.set_cons_zero, List.set_cons_succ, List.length_singleton, Nat.le_refl, Nat.lt_irrefl, Nat.reduceLT, Nat.reduceLeDiff, Option.map_some, Option.map_none, List.flatMap_nil, List.flatMap_cons, Nat.zero_add, BEq.rfl, kcall_two, mp_two0, mp_two1, mp_two2, mp_two3, mp_two4, aop_makeFunc, plainA, Bool.true_and, sl3, ty3, un3, sl49, ty49, un49, sl71, ty71, un71, sl69, ty69, un69, sl5, ty5, un5, sl2, ty2, un2, sl21, ty21, un21, sl4, ty4, un4, sl9, un9, sl22, ty22, un22, sl31, ty31, un31, sl36, sl53, ty38, sl38, ty41, sl41, inR64, inRu64, inRu32, gs_impl_RepresentativesOf_37, at_impl_areFew, lend_impl_areFew, gs_impl_RepresentativesOf_40, at_impl_visitLists, at_impl_visitLists_v2, lend_impl_visitLists, Try.f15]
  refine ⟨fun h => ?_, fun h => ?_⟩
  · have e : rpO n l = none := by simp [rpO, h]
    rw [e]
    simp only [opL, opB]
    ((repeat' apply And.intro) <;> first | exact afinL_of [(4, 3, .ints .i64 [])] [] rfl rfl (by simp only [resL, resV, resC, getE, putE, getB, setB, lifts, liftOne, cellsOfB, List.length_cons, List.length_nil, List.nil_append, List.cons_append, Nat.reduceAdd, Nat.reduceEqDiff, ↓reduceIte, ty3, ty49, ty71, ty69, ty5, ty2, ty21, ty4, ty22, ty31, ty38, ty41]; rfl) (by simp [St.conv, St.bf, getE, putE, getB, cv, cvL, cvB, idx, still, pack, lifts, liftOne, cellsOfB, setB] <;> first | assumption | rfl | simp [SC.len]) (by simp [St.conv, St.bf, getE, putE, getB, cv, cvL, cvB, idx, still, pack, lifts, liftOne, cellsOfB, setB]) | rfl | omega | assumption | (show ordB _ _ _ = true; kernel_rfl))
  obtain ⟨h6, hs⟩ := fewB_iff.1 h
  have hb := setsOk_bd hs
  have e : rpO n l = repO l 0 [] := by simp [rpO, h]
  rw [e]
  rw [List.drop_zero]
  refine ⟨h6, fun j hj => by have := hb.2 j hj; omega, by omega, by omega, fun hz => ?_, fun hz => ?_⟩
  · have el : l = [] := List.length_eq_zero_iff.1 hz.symm
    subst el
    refine ⟨rfl, ?_⟩
    simp only [repO, opL, opB]
    ((repeat' apply And.intro) <;> first | exact afinL_of [(4, 3, .ints .i64 [])] [] rfl rfl (by simp only [resL, resV, resC, getE, putE, getB, setB, lifts, liftOne, cellsOfB, List.length_cons, List.length_nil, List.nil_append, List.cons_append, Nat.reduceAdd, Nat.reduceEqDiff, ↓reduceIte, ty3, ty49, ty71, ty69, ty5, ty2, ty21, ty4, ty22, ty31, ty38, ty41]; rfl) (by simp [St.conv, St.bf, getE, putE, getB, cv, cvL, cvB, idx, still, pack, lifts, liftOne, cellsOfB, setB] <;> first | assumption | rfl | simp [SC.len]) (by simp [St.conv, St.bf, getE, putE, getB, cv, cvL, cvB, idx, still, pack, lifts, liftOne, cellsOfB, setB]) | rfl | omega | assumption | (show ordB _ _ _ = true; kernel_rfl))
  · refine ⟨rfl, fun _ => ?_, fun _ => ?_⟩
    · ((repeat' apply And.intro) <;> first | exact afinL_of [] [] rfl rfl (by simp only [resL, resV, resC, getE, putE, getB, setB, lifts, liftOne, cellsOfB, List.length_cons, List.length_nil, List.nil_append, List.cons_append, Nat.reduceAdd, Nat.reduceEqDiff, ↓reduceIte, ty3, ty49, ty71, ty69, ty5, ty2, ty21, ty4, ty22, ty31, ty38, ty41]; rfl) (by simp [St.conv, St.bf, getE, putE, getB, cv, cvL, cvB, idx, still, pack, lifts, liftOne, cellsOfB, setB] <;> first | assumption | rfl | simp [SC.len]) (by simp [St.conv, St.bf, getE, putE, getB, cv, cvL, cvB, idx, still, pack, lifts, liftOne, cellsOfB, setB]) | rfl | omega | assumption | (show ordB _ _ _ = true; kernel_rfl))
    · ((repeat' apply And.intro) <;> first | exact afinL_of [] [] rfl rfl (by simp only [resL, resV, resC, getE, putE, getB, setB, lifts, liftOne, cellsOfB, List.length_cons, List.length_nil, List.nil_append, List.cons_append, Nat.reduceAdd, Nat.reduceEqDiff, ↓reduceIte, ty3, ty49, ty71, ty69, ty5, ty2, ty21, ty4, ty22, ty31, ty38, ty41]; rfl) (by simp [St.conv, St.bf, getE, putE, getB, cv, cvL, cvB, idx, still, pack, lifts, liftOne, cellsOfB, setB] <;> first | assumption | rfl | simp [SC.len]) (by simp [St.conv, St.bf, getE, putE, getB, cv, cvL, cvB, idx, still, pack, lifts, liftOne, cellsOfB, setB]) | rfl | omega | assumption | (show ordB _ _ _ = true; kernel_rfl))
theorem runs_impl_RepresentativesOf (n : Int) (l : List Int) : ARuns Try.prog 15 [.int .i64 n, .sl none (.ints .i64 l)] [] (.tup [.ref 0 (opL (rpO n l)).length, .bool (opB (rpO n l))]) [.row 3 (.ints .i64 (opL (rpO n l)))] := by
  have h := ARuns_thaw (runs_impl_RepresentativesOf_own n l ) (by simp [calmA, calmL]) (by rfl)
  simp only [thawA, thawL, SC.len] at h
  exact h
def lend_impl_RepresentativesOf : List Nat := []
def sp_impl_RepresentativesOf : List AV → List Bx → (AV → List Bx → Prop) → Prop
  | [.int .i64 n, .sl none (.ints .i64 l)], [], K => K (.tup [.ref 0 (opL (rpO n l)).length, .bool (opB (rpO n l))]) [.row 3 (.ints .i64 (opL (rpO n l)))]
  | _, _, _ => False
theorem at_impl_RepresentativesOf {n : Int} {l : List Int} {K : AV → List Bx → Prop} : sp_impl_RepresentativesOf [.int .i64 n, .sl none (.ints .i64 l)] [] K = (K (.tup [.ref 0 (opL (rpO n l)).length, .bool (opB (rpO n l))]) [.row 3 (.ints .i64 (opL (rpO n l)))]) := id rfl
theorem ok_impl_RepresentativesOf : ∀ args giv K, sp_impl_RepresentativesOf args giv K → ∃ r outs, ARuns Try.prog 15 args giv r outs ∧ K r outs := by
  intro args giv K hk
  unfold sp_impl_RepresentativesOf at hk
  split at hk
  · exact ⟨_, _, runs_impl_RepresentativesOf _ _ , hk⟩
  · exact hk.elim
end Go.Proofs.Ytdpodfdjdophgaa
