import Derived.Test.YtdpimgmjoecieaaA28
namespace Go.Proofs.Ytdpimgmjoecieaa
open AM
set_option linter.unusedSimpArgs false
set_option linter.unusedVariables false
theorem sl3 : slTy Try.prog 3 = none := by kernel_rfl
theorem ty3 : tyOf Try.prog 3 = .one (.int .i64 0) := by kernel_rfl
theorem un3 : Try.prog.underlying 3 = some (.int .i64) := by kernel_rfl
theorem sl56 : slTy Try.prog 56 = none := by kernel_rfl
theorem ty56 : tyOf Try.prog 56 = .one (.int .u64 0) := by kernel_rfl
theorem un56 : Try.prog.underlying 56 = some (.int .u64) := by kernel_rfl
theorem sl85 : slTy Try.prog 85 = none := by kernel_rfl
theorem ty85 : tyOf Try.prog 85 = .one (.int .u64 0) := by kernel_rfl
theorem un85 : Try.prog.underlying 85 = some (.int .u64) := by kernel_rfl
theorem sl83 : slTy Try.prog 83 = none := by kernel_rfl
theorem ty83 : tyOf Try.prog 83 = .one (.int .u32 0) := by kernel_rfl
theorem un83 : Try.prog.underlying 83 = some (.int .u32) := by kernel_rfl
theorem sl5 : slTy Try.prog 5 = none := by kernel_rfl
theorem ty5 : tyOf Try.prog 5 = .one (.int .u8 0) := by kernel_rfl
theorem un5 : Try.prog.underlying 5 = some (.int .u8) := by kernel_rfl
theorem sl2 : slTy Try.prog 2 = none := by kernel_rfl
theorem ty2 : tyOf Try.prog 2 = .one (.int .i64 0) := by kernel_rfl
theorem un2 : Try.prog.underlying 2 = some (.int .i64) := by kernel_rfl
theorem sl21 : slTy Try.prog 21 = none := by kernel_rfl
theorem ty21 : tyOf Try.prog 21 = .one (.int .i32 0) := by kernel_rfl
theorem un21 : Try.prog.underlying 21 = some (.int .i32) := by kernel_rfl
theorem sl4 : slTy Try.prog 4 = none := by kernel_rfl
theorem ty4 : tyOf Try.prog 4 = .one .ff := by kernel_rfl
theorem un4 : Try.prog.underlying 4 = some .bool := by kernel_rfl
theorem sl9 : slTy Try.prog 9 = none := by kernel_rfl
theorem un9 : Try.prog.underlying 9 = some .string := by kernel_rfl
theorem sl22 : slTy Try.prog 22 = some (3, .ints .i64 []) := by kernel_rfl
theorem ty22 : tyOf Try.prog 22 = .one .nil := by kernel_rfl
theorem un22 : Try.prog.underlying 22 = some (.slice 3) := by kernel_rfl
theorem ty39 : tyOf Try.prog 39 = .flat [.int .i64 0, .nil] := by kernel_rfl
theorem sl39 : slTy Try.prog 39 = none := by kernel_rfl
theorem ty33 : tyOf Try.prog 33 = .flat [.int .i64 0, .nil] := by kernel_rfl
theorem sl33 : slTy Try.prog 33 = none := by kernel_rfl
theorem inR64 {n : Int} : InR .i64 n = (-9223372036854775808 ≤ n ∧ n ≤ 9223372036854775807) := rfl
theorem inRu64 {n : Int} : InR .u64 n = (0 ≤ n ∧ n ≤ 18446744073709551615) := rfl
theorem inRu32 {n : Int} : InR .u32 n = (0 ≤ n ∧ n ≤ 4294967295) := rfl
theorem getD_get {xs : List Int} {i : Nat} (h : i < xs.length) : xs.getD i 0 = xs[i] := by rw [List.getD_eq_getElem?_getD, List.getElem?_eq_getElem h]; rfl
theorem take_succ_getD {xs : List Int} {i : Nat} (h : i < xs.length) : xs.take (i + 1) = xs.take i ++ [xs.getD i 0] := by
  rw [List.take_add_one, List.getElem?_eq_getElem h, getD_get h]; rfl
theorem copy_step {xs : List Int} {i : Nat} (h : i < xs.length) : (xs.take i ++ List.replicate (xs.length - i) 0).set i (xs.getD i 0) = xs.take (i + 1) ++ List.replicate (xs.length - (i + 1)) 0 := by
  have e : (xs.take i).length = i := by rw [List.length_take]; omega
  obtain ⟨m, hm⟩ : ∃ m, xs.length - i = m + 1 := ⟨xs.length - i - 1, by omega⟩
  rw [List.set_append_right _ _ (by omega), e, Nat.sub_self, hm, List.replicate_succ, List.set_cons_zero, take_succ_getD h, show xs.length - (i + 1) = m by omega, List.append_assoc]; rfl
/-- Two lists, element by element. -/
theorem eq_of_get {xs ys : List Int} (hl : xs.length = ys.length) (h : ∀ i, i < xs.length → xs.getD i 0 = ys.getD i 0) : xs = ys := by
  apply List.ext_getElem hl
  intro i h1 h2
  have := h i h1
  rwa [getD_get h1, getD_get h2] at this

/-- For all indices below n. -/
def allN (n : Nat) (p : Nat → Bool) : Bool := (List.range n).all p
theorem allN_iff {n : Nat} {p : Nat → Bool} : allN n p = true ↔ ∀ i, i < n → p i = true := by simp [allN, List.all_eq_true]
theorem allN_t {n : Nat} {p : Nat → Bool} (h : ∀ i, i < n → p i = true) : allN n p = true := allN_iff.2 h
theorem allN_f {n : Nat} {p : Nat → Bool} (i : Nat) (hi : i < n) (h : p i = false) : allN n p = false := by
  cases hh : allN n p with
  | false => rfl
  | true => rw [allN_iff.1 hh i hi] at h; cases h
theorem allN_congr {n : Nat} {p q : Nat → Bool} (h : ∀ i, i < n → p i = q i) : allN n p = allN n q := by
  rw [Bool.eq_iff_iff, allN_iff, allN_iff]
  exact ⟨fun hh i hi => by rw [← h i hi]; exact hh i hi, fun hh i hi => by rw [h i hi]; exact hh i hi⟩
theorem and_f1 {a b : Bool} (h : a = false) : (a && b) = false := by simp [h]
theorem and_f2 {a b : Bool} (h : b = false) : (a && b) = false := by simp [h]
theorem and_tt {a b : Bool} (h : a = true) (h' : b = true) : (a && b) = true := by simp [h, h']
theorem upto_succ {p : Nat → Bool} {i : Nat} (h : ∀ k, k < i → p k = true) (hi : p i = true) : ∀ k, k < i + 1 → p k = true := fun k hk => by
  by_cases e : k = i
  · rw [e]; exact hi
  · exact h k (by omega)
theorem allN_succ {n : Nat} {p : Nat → Bool} : allN (n + 1) p = (allN n p && p n) := by
  rw [Bool.eq_iff_iff, Bool.and_eq_true, allN_iff, allN_iff]
  constructor
  · intro h; exact ⟨fun i hi => h i (by omega), h n (by omega)⟩
  · intro h; exact upto_succ h.1 h.2

def inB (n l m : Int) : Bool := decide (l ≤ n) && decide (n ≤ m)
theorem inB_t {n l m : Int} : (inB n l m = true) = (l ≤ n ∧ n ≤ m) := by simp [inB]
theorem inB_f {n l m : Int} : (inB n l m = false) = ¬ (l ≤ n ∧ n ≤ m) := by rw [← inB_t]; simp

/-- All elements, as bits. -/
def fullI (n : Int) : Int := 2 ^ n.toNat - 1
theorem full_bd {n : Int} (h : 0 ≤ n ∧ n ≤ 10) : 0 ≤ fullI n ∧ fullI n ≤ 1023 := by
  have h1 : (2 : Nat) ^ n.toNat ≤ 2 ^ 10 := Nat.pow_le_pow_right (by omega) (by omega)
  have h2 : 0 < (2 : Nat) ^ n.toNat := Nat.two_pow_pos _
  have e : ((2 ^ n.toNat : Nat) : Int) = 2 ^ n.toNat := by simp
  unfold fullI
  omega
theorem full_bd6 {n : Int} (h : 0 ≤ n ∧ n ≤ 6) : 0 ≤ fullI n ∧ fullI n ≤ 63 := by
  have h1 : (2 : Nat) ^ n.toNat ≤ 2 ^ 6 := Nat.pow_le_pow_right (by omega) (by omega)
  have h2 : 0 < (2 : Nat) ^ n.toNat := Nat.two_pow_pos _
  have e : ((2 ^ n.toNat : Nat) : Int) = 2 ^ n.toNat := by simp
  unfold fullI
  omega
def inS (n s : Int) : Bool := inB s 0 (fullI n)
/-- Sets of n elements. -/
def setsOk (n : Int) (xs : List Int) : Bool := inB n 0 6 && allN xs.length fun i => inS n (xs.getD i 0)
theorem setsOk_iff {n : Int} {xs : List Int} : setsOk n xs = true ↔ inB n 0 6 = true ∧ ∀ i, i < xs.length → inS n (xs.getD i 0) = true := by
  simp only [setsOk, Bool.and_eq_true, allN_iff]
theorem setsOk_bd {n : Int} {xs : List Int} (h : setsOk n xs = true) : (0 ≤ n ∧ n ≤ 6) ∧ ∀ i, i < xs.length → 0 ≤ xs.getD i 0 ∧ xs.getD i 0 ≤ 63 ∧ xs.getD i 0 ≤ fullI n := by
  rw [setsOk_iff, inB_t] at h
  have hf := full_bd6 h.1
  refine ⟨h.1, fun i hi => ?_⟩
  have := h.2 i hi
  rw [inS, inB_t] at this
  omega
def ascAt (xs : List Int) (i : Nat) : Bool := i == 0 || decide (xs.getD (i - 1) 0 < xs.getD i 0)
/-- A family: sets that ascend. -/
def famB (n : Int) (xs : List Int) : Bool := setsOk n xs && allN xs.length (ascAt xs)
theorem famB_iff {n : Int} {xs : List Int} : famB n xs = true ↔ setsOk n xs = true ∧ ∀ i, i < xs.length → ascAt xs i = true := by
  simp only [famB, Bool.and_eq_true, allN_iff]
theorem famB_f {n : Int} {xs : List Int} (h : ¬ (setsOk n xs = true ∧ ∀ i, i < xs.length → ascAt xs i = true)) : famB n xs = false := by
  rw [← famB_iff] at h; simpa using h
theorem famB_bd {n : Int} {xs : List Int} (h : famB n xs = true) : (0 ≤ n ∧ n ≤ 6) ∧ ∀ i, i < xs.length → 0 ≤ xs.getD i 0 ∧ xs.getD i 0 ≤ 63 ∧ xs.getD i 0 ≤ fullI n := setsOk_bd (famB_iff.1 h).1
theorem ascAt_iff {xs : List Int} {i : Nat} : ascAt xs i = true ↔ (i = 0 ∨ xs.getD (i - 1) 0 < xs.getD i 0) := by
  unfold ascAt
  generalize xs.getD (i - 1) 0 = a
  generalize xs.getD i 0 = b
  simp

def orBit (s e : Int) : Int := bor .i64 s (1 * 2 ^ e.toNat)
def bitAt (s e : Int) : Bool := decide (band .i64 (s / 2 ^ e.toNat) 1 = 1)
/-- The elements of a list as bits. -/
def seen (xs : List Int) : Int := xs.foldl orBit 0
theorem seen_nil : seen [] = 0 := rfl
theorem seen_snoc {xs : List Int} {x : Int} : seen (xs ++ [x]) = orBit (seen xs) x := by simp [seen]
theorem seen_succ {xs : List Int} {i : Nat} (h : i < xs.length) : seen (xs.take (i + 1)) = orBit (seen (xs.take i)) (xs.getD i 0) := by rw [take_succ_getD h, seen_snoc]
def okAt (n : Int) (xs : List Int) (i : Nat) : Bool := inB (xs.getD i 0) 0 (n - 1) && !bitAt (seen (xs.take i)) (xs.getD i 0)
def permB (n : Int) (xs : List Int) : Bool := decide ((xs.length : Int) = n) && (List.range xs.length).all (okAt n xs)
theorem permB_iff {n : Int} {xs : List Int} : permB n xs = true ↔ (xs.length : Int) = n ∧ ∀ i, i < xs.length → okAt n xs i = true := by
  simp [permB, List.all_eq_true]
theorem permB_false {n : Int} {xs : List Int} (h : ¬ ((xs.length : Int) = n ∧ ∀ i, i < xs.length → okAt n xs i = true)) : permB n xs = false := by
  rw [← permB_iff] at h; simpa using h
theorem pow_le62 {e : Int} (h : 0 ≤ e ∧ e ≤ 62) : 0 ≤ (1 : Int) * 2 ^ e.toNat ∧ (1 : Int) * 2 ^ e.toNat ≤ 2 ^ 62 := by
  have : (2 : Nat) ^ e.toNat ≤ 2 ^ 62 := Nat.pow_le_pow_right (by omega) (by omega)
  have h := Int.ofNat_le.2 this
  have h0 : (0 : Int) ≤ 2 ^ e.toNat := Int.pow_nonneg (by omega)
  simp at h
  omega
theorem okAt_iff {n : Int} {xs : List Int} {i : Nat} : okAt n xs i = true ↔ inB (xs.getD i 0) 0 (n - 1) = true ∧ ¬ band .i64 (seen (xs.take i) / 2 ^ (xs.getD i 0).toNat) 1 = 1 := by
  unfold okAt bitAt
  generalize xs.getD i 0 = e
  simp
/-- An order of at most six elements. -/
def ord6 (xs : List Int) : Bool := decide (xs.length ≤ 6) && permB xs.length xs
theorem ord6_t {xs : List Int} (h : ord6 xs = true) : xs.length ≤ 6 ∧ ∀ i, i < xs.length → 0 ≤ xs.getD i 0 ∧ xs.getD i 0 < 6 := by
  simp only [ord6, Bool.and_eq_true, decide_eq_true_eq] at h
  refine ⟨h.1, fun i hi => ?_⟩
  have := ((permB_iff.1 h.2).2 i hi)
  rw [okAt_iff, inB_t] at this
  omega
/-- The elements from a to b, as bits. -/
def sliceB (xs : List Int) (a b : Int) : Int := seen ((xs.take (b + 1).toNat).drop a.toNat)
def soiOk (xs : List Int) (a b : Int) : Bool := ord6 xs && (inB a 0 (xs.length - 1) && inB b a (xs.length - 1))
def soi (xs : List Int) (a b : Int) : Int := if soiOk xs a b = true then sliceB xs a b else 0
theorem soi_f {xs : List Int} {a b : Int} (h : ¬ (ord6 xs = true ∧ inB a 0 (xs.length - 1) = true ∧ inB b a (xs.length - 1) = true)) : soiOk xs a b = false ∧ soi xs a b = 0 := by
  have e : soiOk xs a b = false := by
    cases hh : soiOk xs a b with
    | false => rfl
    | true => exact absurd (by simpa [soiOk] using hh) h
  exact ⟨e, by simp [soi, e]⟩
theorem soi_t {xs : List Int} {a b : Int} (h : ord6 xs = true ∧ inB a 0 (xs.length - 1) = true ∧ inB b a (xs.length - 1) = true) : soiOk xs a b = true ∧ soi xs a b = sliceB xs a b := by
  have e : soiOk xs a b = true := by simpa [soiOk] using h
  exact ⟨e, by simp [soi, e]⟩
theorem sliceB_next {xs : List Int} {a : Int} {i : Nat} (ha : 0 ≤ a ∧ a.toNat ≤ i) (hi : i < xs.length) : seen ((xs.take (i + 1)).drop a.toNat) = orBit (seen ((xs.take i).drop a.toNat)) (xs.getD i 0) := by
  rw [take_succ_getD hi, List.drop_append_of_le_length (by rw [List.length_take]; omega), seen_snoc]

/-- At most six sets. -/
def fewB (n : Int) (l : List Int) : Bool := decide (l.length ≤ 6) && setsOk n l
theorem fewB_iff {n : Int} {l : List Int} : fewB n l = true ↔ l.length ≤ 6 ∧ setsOk n l = true := by simp [fewB]
theorem fewB_f {n : Int} {l : List Int} (h : ¬ (l.length ≤ 6 ∧ setsOk n l = true)) : fewB n l = false := by
  rw [← fewB_iff] at h; simpa using h
/-- An element of the i-th set that is no other one's. -/
def repAt (n : Int) (l x : List Int) (i : Nat) : Bool :=
  decide (inB (x.getD i 0) 0 (n - 1) = true ∧ ¬ band .i64 (l.getD i 0 / 2 ^ (x.getD i 0).toNat) 1 = 0 ∧ ¬ band .i64 (seen (x.take i) / 2 ^ (x.getD i 0).toNat) 1 = 1)
theorem repAt_t {n : Int} {l x : List Int} {i : Nat} (h : inB (x.getD i 0) 0 (n - 1) = true ∧ ¬ band .i64 (l.getD i 0 / 2 ^ (x.getD i 0).toNat) 1 = 0 ∧ ¬ band .i64 (seen (x.take i) / 2 ^ (x.getD i 0).toNat) 1 = 1) : repAt n l x i = true := by
  unfold repAt; exact decide_eq_true h
theorem repAt_f {n : Int} {l x : List Int} {i : Nat} (h : ¬ (inB (x.getD i 0) 0 (n - 1) = true ∧ ¬ band .i64 (l.getD i 0 / 2 ^ (x.getD i 0).toNat) 1 = 0 ∧ ¬ band .i64 (seen (x.take i) / 2 ^ (x.getD i 0).toNat) 1 = 1)) : repAt n l x i = false := by
  unfold repAt; exact decide_eq_false h
def repB (n : Int) (l x : List Int) : Bool := (fewB n l && decide (x.length = l.length)) && allN x.length (repAt n l x)

theorem wrap64 {n : Nat} (h : n < 2 ^ 63) : IntKind.wrap .i64 (n : Int) = n := by
  have h1 : (n : Int) % 2 ^ 64 = n := Int.emod_eq_of_lt (by omega) (by omega)
  simp only [IntKind.wrap, IntKind.bits, IntKind.signed, h1]
  rw [if_neg]
  simp; omega
theorem ofInt_nat {a : Nat} : BitVec.ofInt 64 (a : Int) = BitVec.ofNat 64 a := by simp
theorem bnd {a : Int} (h : 0 ≤ a) : a = ((a.toNat : Nat) : Int) := by omega
theorem band_nat {a b : Nat} (ha : a < 2 ^ 63) (hb : b < 2 ^ 63) : band .i64 a b = ((a &&& b : Nat) : Int) := by
  show IntKind.wrap .i64 ((BitVec.ofInt 64 (a : Int) &&& BitVec.ofInt 64 (b : Int)).toNat : Int) = _
  rw [ofInt_nat, ofInt_nat, BitVec.toNat_and, BitVec.toNat_ofNat, BitVec.toNat_ofNat]
  rw [Nat.mod_eq_of_lt (by omega), Nat.mod_eq_of_lt (by omega)]
  exact wrap64 (Nat.lt_of_le_of_lt Nat.and_le_left ha)
theorem bor_nat {a b : Nat} (ha : a < 2 ^ 63) (hb : b < 2 ^ 63) : bor .i64 a b = ((a ||| b : Nat) : Int) := by
  show IntKind.wrap .i64 ((BitVec.ofInt 64 (a : Int) ||| BitVec.ofInt 64 (b : Int)).toNat : Int) = _
  rw [ofInt_nat, ofInt_nat, BitVec.toNat_or, BitVec.toNat_ofNat, BitVec.toNat_ofNat]
  rw [Nat.mod_eq_of_lt (by omega), Nat.mod_eq_of_lt (by omega)]
  exact wrap64 (Nat.or_lt_two_pow ha hb)
theorem bxor_nat {a b : Nat} (ha : a < 2 ^ 63) (hb : b < 2 ^ 63) : bxor .i64 a b = ((a ^^^ b : Nat) : Int) := by
  show IntKind.wrap .i64 ((BitVec.ofInt 64 (a : Int) ^^^ BitVec.ofInt 64 (b : Int)).toNat : Int) = _
  rw [ofInt_nat, ofInt_nat, BitVec.toNat_xor, BitVec.toNat_ofNat, BitVec.toNat_ofNat]
  rw [Nat.mod_eq_of_lt (by omega), Nat.mod_eq_of_lt (by omega)]
  exact wrap64 (Nat.xor_lt_two_pow ha hb)
/-- a without b's bits. -/
theorem bandn_nat {a b : Nat} (ha : a < 2 ^ 63) (hb : b < 2 ^ 63) : bandn .i64 a b = ((a ^^^ (a &&& b) : Nat) : Int) := by
  have e : (BitVec.ofNat 64 a &&& ~~~ BitVec.ofNat 64 b) = BitVec.ofNat 64 a ^^^ (BitVec.ofNat 64 a &&& BitVec.ofNat 64 b) := by
    ext i hi
    simp only [BitVec.getElem_and, BitVec.getElem_not, BitVec.getElem_xor]
    cases (BitVec.ofNat 64 a)[i] <;> cases (BitVec.ofNat 64 b)[i] <;> rfl
  show IntKind.wrap .i64 ((BitVec.ofInt 64 (a : Int) &&& ~~~ BitVec.ofInt 64 (b : Int)).toNat : Int) = _
  rw [ofInt_nat, ofInt_nat, e, BitVec.toNat_xor, BitVec.toNat_and, BitVec.toNat_ofNat, BitVec.toNat_ofNat]
  rw [Nat.mod_eq_of_lt (show a < 2 ^ 64 by omega), Nat.mod_eq_of_lt (show b < 2 ^ 64 by omega)]
  exact wrap64 (Nat.xor_lt_two_pow ha (Nat.lt_of_le_of_lt Nat.and_le_left ha))
theorem xor_and_zero {a b : Nat} : a ^^^ (a &&& b) = 0 ↔ a &&& b = a := by
  constructor
  · intro h
    have : a ^^^ (a ^^^ (a &&& b)) = a ^^^ 0 := by rw [h]
    rwa [← Nat.xor_assoc, Nat.xor_self, Nat.zero_xor, Nat.xor_zero] at this
  · intro h; rw [h, Nat.xor_self]
theorem bandn_zero {a b : Int} (ha : 0 ≤ a ∧ a < 2 ^ 63) (hb : 0 ≤ b ∧ b < 2 ^ 63) : bandn .i64 a b = 0 ↔ band .i64 a b = a := by
  obtain ⟨a, rfl⟩ := Int.eq_ofNat_of_zero_le ha.1
  obtain ⟨b, rfl⟩ := Int.eq_ofNat_of_zero_le hb.1
  rw [bandn_nat (by omega) (by omega), band_nat (by omega) (by omega)]
  have := @xor_and_zero a b
  omega

def popF : Nat → Nat → Nat
  | 0, _ => 0
  | f + 1, n => n % 2 + popF f (n / 2)
def pop (n : Nat) : Nat := popF 64 n
def popI (s : Int) : Int := (pop s.toNat : Int)
theorem popF_zero : ∀ f, popF f 0 = 0
  | 0 => rfl
  | f + 1 => by simp [popF, popF_zero f]
theorem popF_enough : ∀ {f n : Nat}, n < 2 ^ f → popF (f + 1) n = popF f n
  | 0, n, h => by have : n = 0 := by simpa using h
                  subst this; rfl
  | f + 1, n, h => by
    have : n / 2 < 2 ^ f := by rw [Nat.pow_succ] at h; omega
    rw [popF, popF_enough this, popF]
theorem pop_step {n : Nat} (h : n < 2 ^ 64) : pop n = n % 2 + pop (n / 2) := by
  have : n / 2 < 2 ^ 63 := by omega
  unfold pop
  rw [popF, ← popF_enough this]
theorem pop_zero : pop 0 = 0 := popF_zero _
theorem popF_le : ∀ f n, popF f n ≤ f
  | 0, _ => Nat.le_refl _
  | f + 1, n => by have := popF_le f (n / 2); simp only [popF]; omega
theorem pop_le {n : Nat} : pop n ≤ 64 := popF_le _ _
theorem band_one {x : Int} (h : 0 ≤ x ∧ x < 2 ^ 63) : band .i64 x 1 = x % 2 := by
  obtain ⟨a, rfl⟩ := Int.eq_ofNat_of_zero_le h.1
  have := band_nat (a := a) (b := 1) (by omega) (by omega)
  rw [show ((1 : Nat) : Int) = 1 from rfl] at this
  rw [this, Nat.and_one_is_mod]; omega

/-- The greatest of the first i, at least 0. -/
def maxTo (f : Nat → Int) : Nat → Int
  | 0 => 0
  | i + 1 => if maxTo f i < f i then f i else maxTo f i
theorem maxTo_bd {f : Nat → Int} {b : Int} (hb : 0 ≤ b) : ∀ {n : Nat}, (∀ i, i < n → f i ≤ b) → 0 ≤ maxTo f n ∧ maxTo f n ≤ b
  | 0, _ => by simp [maxTo, hb]
  | n + 1, h => by
    have h1 := maxTo_bd hb (n := n) fun i hi => h i (by omega)
    have h2 := h n (by omega)
    simp only [maxTo]; split <;> omega
theorem maxTo_congr {f g : Nat → Int} : ∀ {n : Nat}, (∀ i, i < n → f i = g i) → maxTo f n = maxTo g n
  | 0, _ => rfl
  | n + 1, h => by simp only [maxTo]; rw [maxTo_congr fun i hi => h i (by omega), h n (by omega)]

/-- The elements of those of the first i sets that are chosen. -/
def unionF (l : List Int) (code : Int) : Nat → Int
  | 0 => 0
  | i + 1 => if band .i64 (code / 2 ^ i) 1 = 1 then bor .i64 (unionF l code i) (l.getD i 0) else unionF l code i
theorem unionF_bd {l : List Int} {code : Int} : ∀ {n : Nat}, (∀ i, i < n → 0 ≤ l.getD i 0 ∧ l.getD i 0 ≤ 63) → 0 ≤ unionF l code n ∧ unionF l code n ≤ 63
  | 0, _ => by simp [unionF]
  | n + 1, h => by
    have h1 := unionF_bd (code := code) (n := n) fun i hi => h i (by omega)
    have h2 := h n (by omega)
    simp only [unionF]
    split
    · generalize unionF l code n = a at *
      generalize l.getD n 0 = b at *
      obtain ⟨a, rfl⟩ := Int.eq_ofNat_of_zero_le h1.1
      obtain ⟨b, rfl⟩ := Int.eq_ofNat_of_zero_le h2.1
      rw [bor_nat (by omega) (by omega)]
      have := Nat.or_lt_two_pow (x := a) (y := b) (n := 6) (by omega) (by omega)
      omega
    · exact h1
def lackI (l : List Int) (code : Int) : Int := popI code - popI (unionF l code l.length)
theorem popI_bd {s : Int} : 0 ≤ popI s ∧ popI s ≤ 64 := by unfold popI; have := @pop_le s.toNat; omega
theorem lackI_le {l : List Int} {c : Int} : lackI l c ≤ 64 := by
  unfold lackI
  have h1 := @popI_bd c
  have h2 := @popI_bd (unionF l c l.length)
  omega
def lackN (l : List Int) (c : Nat) : Int := lackI l c
def defI (n : Int) (l : List Int) : Int := if fewB n l = true then maxTo (lackN l) (2 ^ l.length) else -1
theorem maxTo_succ {f : Nat → Int} {i : Nat} : maxTo f (i + 1) = if maxTo f i < f i then f i else maxTo f i := rfl
theorem two_pow6 {n : Nat} (h : n ≤ 6) : (1 : Int) * 2 ^ n = ((2 ^ n : Nat) : Int) ∧ 2 ^ n ≤ 64 ∧ 1 ≤ 2 ^ n := by
  have h1 : (2 : Nat) ^ n ≤ 2 ^ 6 := Nat.pow_le_pow_right (by omega) h
  have h2 : 0 < (2 : Nat) ^ n := Nat.two_pow_pos _
  refine ⟨by simp, by omega, by omega⟩

/-- Those of the first n that are elements. -/
def elemsF (s : Nat) : Nat → List Int
  | 0 => []
  | n + 1 => if s / 2 ^ n % 2 = 1 then elemsF s n ++ [(n : Int)] else elemsF s n
theorem elemsF_len {s : Nat} : ∀ {n : Nat}, (elemsF s n).length ≤ n
  | 0 => by simp [elemsF]
  | n + 1 => by
    have := elemsF_len (s := s) (n := n)
    simp only [elemsF]; split
    · simp; omega
    · omega
theorem elemsF_t {s n : Nat} (h : s / 2 ^ n % 2 = 1) : elemsF s (n + 1) = elemsF s n ++ [(n : Int)] := by rw [elemsF, if_pos h]
theorem elemsF_f {s n : Nat} (h : ¬ s / 2 ^ n % 2 = 1) : elemsF s (n + 1) = elemsF s n := by rw [elemsF, if_neg h]
theorem elemsF_stop {s i : Nat} (h : s / 2 ^ i = 0) : ∀ k, elemsF s (i + k) = elemsF s i
  | 0 => rfl
  | k + 1 => by
    have h1 : s / 2 ^ (i + k) = 0 := by rw [Nat.pow_add, ← Nat.div_div_eq_div_mul, h, Nat.zero_div]
    rw [← Nat.add_assoc, elemsF_f (by rw [h1]; decide), elemsF_stop h k]
/-- The elements of a set. -/
def elemsL (s : Int) : List Int := elemsF s.toNat 62
theorem elemsL_len {s : Int} : (elemsL s).length ≤ 62 := elemsF_len
theorem elems_at {s i : Nat} (h : s / 2 ^ i = 0) (hi : i ≤ 62) : elemsL s = elemsF s i := by
  have := elemsF_stop h (62 - i)
  rw [show i + (62 - i) = 62 by omega] at this
  exact this
theorem elems_lt {s i : Nat} (hs : s < 2 ^ 62) (h : ¬ s / 2 ^ i = 0) : i < 62 := by
  by_cases hc : i < 62
  · exact hc
  · exfalso
    apply h
    have : (2 : Nat) ^ 62 ≤ 2 ^ i := Nat.pow_le_pow_right (by omega) (by omega)
    exact Nat.div_eq_of_lt (by omega)
theorem div_next {s i : Nat} : s / 2 ^ (i + 1) = s / 2 ^ i / 2 := by rw [Nat.pow_succ, Nat.div_div_eq_div_mul]
theorem pop_fit : ∀ {n s : Nat}, s < 2 ^ n → n ≤ 62 → pop s ≤ n
  | 0, s, h, _ => by have : s = 0 := by simpa using h
                     subst this; rw [pop_zero]; omega
  | n + 1, s, h, hn => by
    rw [Nat.pow_succ] at h
    have h2 : (2 : Nat) ^ n ≤ 2 ^ 62 := Nat.pow_le_pow_right (by omega) (by omega)
    have := pop_fit (n := n) (s := s / 2) (by omega) (by omega)
    rw [pop_step (by omega)]
    omega

def firstN (n : Nat) (p : Nat → Bool) : Option Nat := (List.range n).find? p
theorem firstN_some {n i : Nat} {p : Nat → Bool} (hi : i < n) (hp : p i = true) (h : ∀ k, k < i → p k = false) : firstN n p = some i := by
  unfold firstN
  rw [List.find?_range_eq_some]
  exact ⟨hp, by simpa using hi, fun j hj => by simp [h j hj]⟩
theorem firstN_none {n : Nat} {p : Nat → Bool} (h : ∀ k, k < n → p k = false) : firstN n p = none := by
  unfold firstN
  rw [List.find?_range_eq_none]
  exact fun j hj => by simp [h j hj]
def hallP (l : List Int) (c : Nat) : Bool := decide (0 < lackN l c)
theorem hallP_t {l : List Int} {c : Nat} (h : 0 < lackN l c) : hallP l c = true := decide_eq_true h
theorem hallP_f {l : List Int} {c : Nat} (h : ¬ 0 < lackN l c) : hallP l c = false := decide_eq_false h
def hallC (n : Int) (l : List Int) : Option Nat := if fewB n l = true then firstN (2 ^ l.length) (hallP l) else none
def hallL (n : Int) (l : List Int) : List Int := match hallC n l with | some c => elemsL c | none => []
def hallB (n : Int) (l : List Int) : Bool := (hallC n l).isSome
theorem hall_f {n : Int} {l : List Int} (h : fewB n l = false) : hallL n l = [] ∧ hallB n l = false := by simp [hallL, hallB, hallC, h]
theorem hall_n {n : Int} {l : List Int} (h : firstN (2 ^ l.length) (hallP l) = none) : hallL n l = [] ∧ hallB n l = false := by
  unfold hallL hallB hallC; split <;> simp_all
theorem hall_s {n : Int} {l : List Int} {c : Nat} (hf : fewB n l = true) (h : firstN (2 ^ l.length) (hallP l) = some c) : hallL n l = elemsL c ∧ hallB n l = true := by simp [hallL, hallB, hallC, hf, h]
theorem hallL_len {n : Int} {l : List Int} : (hallL n l).length ≤ 62 := by
  unfold hallL; split
  · exact elemsL_len
  · simp

/-- n numbers from k on. -/
def iotaI (k : Int) (n : Nat) : List Int := (List.range n).map fun (i : Nat) => k + (i : Int)
theorem iotaI_len {k : Int} {n : Nat} : (iotaI k n).length = n := by simp [iotaI]
theorem iotaI_get {k : Int} {n i : Nat} (h : i < n) : (iotaI k n).getD i 0 = k + i := by
  rw [List.getD_eq_getElem?_getD, iotaI, List.getElem?_map, List.getElem?_range h]; rfl
theorem iotaI_succ {k : Int} {n : Nat} : iotaI k (n + 1) = iotaI k n ++ [k + n] := by
  simp [iotaI, List.range_succ]
theorem mark_step {xs : List Int} {k : Int} {i : Nat} (h : i < xs.length) : (iotaI k i ++ xs.drop i).set i (k + i) = iotaI k (i + 1) ++ xs.drop (i + 1) := by
  rw [List.set_append_right _ _ (by rw [iotaI_len]; exact Nat.le_refl _), iotaI_len, Nat.sub_self, List.drop_eq_getElem_cons h, List.set_cons_zero, iotaI_succ, List.append_assoc]; rfl
/-- What is read back: the next number, if they are all there. -/
def heldI (xs : List Int) (k : Int) : Int := if xs = iotaI k xs.length then k + xs.length else -1
theorem heldI_f {xs : List Int} {k : Int} {i : Nat} (hi : i < xs.length) (h : ¬ xs.getD i 0 = k + i) : heldI xs k = -1 := by
  rw [heldI, if_neg]
  intro e
  have := iotaI_get (k := k) (n := xs.length) hi
  rw [← e] at this
  exact h this
theorem heldI_t {xs : List Int} {k : Int} (h : ∀ i, i < xs.length → xs.getD i 0 = k + i) : heldI xs k = k + xs.length := by
  rw [heldI, if_pos]
  exact eq_of_get iotaI_len.symm fun i hi => by rw [h i hi, iotaI_get hi]
theorem heldI_iota {k : Int} {n : Nat} : heldI (iotaI k n) k = k + n := by rw [heldI, iotaI_len, if_pos rfl]

theorem is_laws_toIntS : FnIs Try.prog 16 22 [.tmp 2] (Try.f16.body.getD .skip) := ⟨⟨Try.f16, by kernel_rfl, by kernel_rfl, by kernel_rfl, by kernel_rfl⟩, by kernel_rfl, by kernel_rfl⟩
def G_laws_toIntS : Gm := Gm.none
theorem G_laws_toIntS_ok : G_laws_toIntS.ok Try.prog := Gm.none_ok
set_option maxHeartbeats 1000000 in
set_option maxRecDepth 100000 in
theorem runs_laws_toIntS (xs : List Int) (hp1 : xs.length ≤ 1099511627776) : ARuns Try.prog 16 [.sl none (.ints .i64 xs)] [] (.ref 0 xs.length) [.row 3 (.ints .i64 xs)] := by
  refine ARuns_bc G_laws_toIntS_ok is_laws_toIntS (by simp) fun hl hlB => ?_
  simp only [kcode_at, kreg_at, bc_skip, bc_seq, bc_cond, bc_block, bc_exit, bc_ret, bc_region, lkX_cons, acond_tmp, aCase_t, aCase_f, aCase_b, afin_nil, cvE_some, resL, resV, resC, cv, cvL, pack, entryE, inPrm, Option.getD_some, acall_clo, add_sp, add_lend, kcall_nil, selOf, selA, inArgs, inA, inL, okA, okL, okBx, okC, outA, outL, outU, outB, deep, deepL, boxIds, AV.bid, List.map_nil, List.map_cons, List.all_nil, List.all_cons, BEq.rfl, Bool.and_true, Bool.true_and, List.append_nil, aops_nil, aops_plain, aops_guard, kont_at, yes_at, no_at, aop_move, aop_assign, aop_pick, aop_alloc, aop_box, aop_build, aop_buildSlice, aop_load, aop_store, aop_nilCheck, aop_binOp, aop_unOp, aop_convert, aop_fieldAddr, aop_indexAddr, aop_slice, aop_extract, aop_makeSlice, aop_len, aop_max, aMax_int, slTy2, SC0, aop_append, aop_call, evalE, getE, putE, getB, setB, St.put, setsB, nth, AV.ofV, AV.blk, AV.bid, AV.one, SC.len, SC.get, List.length_nil, List.length_cons, Nat.reduceEqDiff, Nat.reduceAdd, ↓reduceIte, true_and, and_true, Bool.true_eq_false, Bool.false_eq_true, false_imp_iff, true_imp_iff, decide_eq_true_eq, Bool.not_eq_true', Bool.not_eq_false', decide_eq_false_iff_not, Option.isSome, List.nil_append, List.cons_append, aGuardO_some, aGuard_tt, aGuard_tf, aGuard_ft, aGuard_ff, aGuard_tb, aGuard_fb, aGuard_ts, aGuard_fs, aPick_b, aPick_t, aPick_f, aAlloc_one, aAlloc_flat, aBox_some, aBuild_flat, aInt_add, aBin_add, aInt_sub, aBin_sub, aInt_mul, aBin_mul, aInt_quo, aBin_quo, aInt_rem, aBin_rem, aInt_and, aBin_and, aInt_or, aBin_or, aInt_xor, aBin_xor, aInt_andNot, aBin_andNot, aInt_eql, aBin_eql, aInt_neq, aBin_neq, aInt_lss, aBin_lss, aInt_leq, aBin_leq, aInt_gtr, aBin_gtr, aInt_geq, aBin_geq, aBin_shl, aBin_shr, aShift_shl, aShift_shr, aBin_be1, aBin_bn1, aBin_be2, aBin_bn2, aBin_be3, aBin_bn3, aBin_be4, aBin_bn4, aBin_be5, aBin_bn5, aBin_be6, aBin_bn6, aBin_be7, aBin_bn7, aBin_be8, aBin_bn8, aBin_be9, aBin_bn9, aUn_b, aUn_t, aUn_f, aUn_i, aNil_ptr, aNil_pv, aConv_int, aField_ptr, aField_pv, aIdx_sl, aIdx_prm, aIdx_row, aIdx_drow, aMake_i, aMake_s, aExtr_tup, aLen_ref, aLen_nil, aLen_sl, aLen_prm, aLen_str, aBuildL_some, aBuildS_some, aLoad_1b, aLoad_1d, aLoad_fb, aLoad_fd, aLoad_1p, aLoad_fp, aLoad_ep, aLoad_rr, aLoad_rd, aStore_1, aStore_f, aStore_r, aApp_some, aAppend_nil, aAppend_ref, aSlice_h, aSlice_l, aSlice_lh, bc_draw, kregD_at, aopsD_nil, aopsD_plain, aopsD_guard, kontD_at, contD_at, yesD_at, noD_at, splD_bool, splD_undef, splD_skip, splD_int, splD_tt, splD_ff, splD_str, splD_nil, splD_sl, splD_prm, splD_ref, splD_ptr, splD_rp, splD_ep, splD_pv, splD_agg, splD_tup, splD_clo, gD_tt, gD_tf, gD_ft, gD_ff, gD_ts, gD_fs, slotO_some, addTr_nil, addTr_cons, memQ_nil, memQ_cons, clash_nil, clash_cons, regC_none, regC_nil, regC_cons, regR_nil, regR_cons, Int.toNat_zero, Int.toNat_one, rng0, rng1, rng2, rng3, rng4, SC.take, SC.drop, mp_nil, acond_ct, acond_cf, mp_one0, mp_one1, mp_one2, mp_one3, kcall_one, liveB_row, liveB_box, idx, cont, still, dies, lend, lendA, lendDies, snocs, SC.snoc, SC.app, meet, AV.cells, fillA, List.getD_cons_zero, List.getD_cons_succ, List.set_cons_zero, List.set_cons_succ, List.length_singleton, Nat.le_refl, Nat.lt_irrefl, Nat.reduceLT, Nat.reduceLeDiff, Option.map_some, Option.map_none, List.flatMap_nil, List.flatMap_cons, Nat.zero_add, BEq.rfl, sl3, ty3, un3, sl56, ty56, un56, sl85, ty85, un85, sl83, ty83, un83, sl5, ty5, un5, sl2, ty2, un2, sl21, ty21, un21, sl4, ty4, un4, sl9, un9, sl22, ty22, un22, ty39, sl39, ty33, sl33, inR64, inRu64, inRu32, Try.f16]
  refine ⟨⟨by omega, by omega, by omega⟩, ?_⟩
  refine bc_loop (fun i : Nat => i ≤ xs.length)
    (fun i => ⟨[(0, .prm 0 (.ints .i64 xs)), (3, .ref 0 xs.length), (4, .int .i64 i)], [.row 3 (.ints .i64 (xs.take i ++ List.replicate (xs.length - i) 0))]⟩) (fun i => xs.length - i)
    [0, 3, 4] [0] 0 rfl (by simp [St.conv, St.bf, getE, putE, getB, cv, cvL, cvB, idx, still, pack, lifts, liftOne, cellsOfB, setB]) (by simp) fun i h1 => ?_
  simp only [kcode_at, kreg_at, bc_skip, bc_seq, bc_cond, bc_block, bc_exit, bc_ret, bc_region, lkX_cons, acond_tmp, aCase_t, aCase_f, aCase_b, afin_nil, cvE_some, resL, resV, resC, cv, cvL, pack, entryE, inPrm, Option.getD_some, acall_clo, add_sp, add_lend, kcall_nil, selOf, selA, inArgs, inA, inL, okA, okL, okBx, okC, outA, outL, outU, outB, deep, deepL, boxIds, AV.bid, List.map_nil, List.map_cons, List.all_nil, List.all_cons, BEq.rfl, Bool.and_true, Bool.true_and, List.append_nil, aops_nil, aops_plain, aops_guard, kont_at, yes_at, no_at, aop_move, aop_assign, aop_pick, aop_alloc, aop_box, aop_build, aop_buildSlice, aop_load, aop_store, aop_nilCheck, aop_binOp, aop_unOp, aop_convert, aop_fieldAddr, aop_indexAddr, aop_slice, aop_extract, aop_makeSlice, aop_len, aop_max, aMax_int, slTy2, SC0, aop_append, aop_call, evalE, getE, putE, getB, setB, St.put, setsB, nth, AV.ofV, AV.blk, AV.bid, AV.one, SC.len, SC.get, List.length_nil, List.length_cons, Nat.reduceEqDiff, Nat.reduceAdd, ↓reduceIte, true_and, and_true, Bool.true_eq_false, Bool.false_eq_true, false_imp_iff, true_imp_iff, decide_eq_true_eq, Bool.not_eq_true', Bool.not_eq_false', decide_eq_false_iff_not, Option.isSome, List.nil_append, List.cons_append, aGuardO_some, aGuard_tt, aGuard_tf, aGuard_ft, aGuard_ff, aGuard_tb, aGuard_fb, aGuard_ts, aGuard_fs, aPick_b, aPick_t, aPick_f, aAlloc_one, aAlloc_flat, aBox_some, aBuild_flat, aInt_add, aBin_add, aInt_sub, aBin_sub, aInt_mul, aBin_mul, aInt_quo, aBin_quo, aInt_rem, aBin_rem, aInt_and, aBin_and, aInt_or, aBin_or, aInt_xor, aBin_xor, aInt_andNot, aBin_andNot, aInt_eql, aBin_eql, aInt_neq, aBin_neq, aInt_lss, aBin_lss, aInt_leq, aBin_leq, aInt_gtr, aBin_gtr, aInt_geq, aBin_geq, aBin_shl, aBin_shr, aShift_shl, aShift_shr, aBin_be1, aBin_bn1, aBin_be2, aBin_bn2, aBin_be3, aBin_bn3, aBin_be4, aBin_bn4, aBin_be5, aBin_bn5, aBin_be6, aBin_bn6, aBin_be7, aBin_bn7, aBin_be8, aBin_bn8, aBin_be9, aBin_bn9, aUn_b, aUn_t, aUn_f, aUn_i, aNil_ptr, aNil_pv, aConv_int, aField_ptr, aField_pv, aIdx_sl, aIdx_prm, aIdx_row, aIdx_drow, aMake_i, aMake_s, aExtr_tup, aLen_ref, aLen_nil, aLen_sl, aLen_prm, aLen_str, aBuildL_some, aBuildS_some, aLoad_1b, aLoad_1d, aLoad_fb, aLoad_fd, aLoad_1p, aLoad_fp, aLoad_ep, aLoad_rr, aLoad_rd, aStore_1, aStore_f, aStore_r, aApp_some, aAppend_nil, aAppend_ref, aSlice_h, aSlice_l, aSlice_lh, bc_draw, kregD_at, aopsD_nil, aopsD_plain, aopsD_guard, kontD_at, contD_at, yesD_at, noD_at, splD_bool, splD_undef, splD_skip, splD_int, splD_tt, splD_ff, splD_str, splD_nil, splD_sl, splD_prm, splD_ref, splD_ptr, splD_rp, splD_ep, splD_pv, splD_agg, splD_tup, splD_clo, gD_tt, gD_tf, gD_ft, gD_ff, gD_ts, gD_fs, slotO_some, addTr_nil, addTr_cons, memQ_nil, memQ_cons, clash_nil, clash_cons, regC_none, regC_nil, regC_cons, regR_nil, regR_cons, Int.toNat_zero, Int.toNat_one, rng0, rng1, rng2, rng3, rng4, SC.take, SC.drop, mp_nil, acond_ct, acond_cf, mp_one0, mp_one1, mp_one2, mp_one3, kcall_one, liveB_row, liveB_box, idx, cont, still, dies, lend, lendA, lendDies, snocs, SC.snoc, SC.app, meet, AV.cells, fillA, List.getD_cons_zero, List.getD_cons_succ, List.set_cons_zero, List.set_cons_succ, List.length_singleton, Nat.le_refl, Nat.lt_irrefl, Nat.reduceLT, Nat.reduceLeDiff, Option.map_some, Option.map_none, List.flatMap_nil, List.flatMap_cons, Nat.zero_add, BEq.rfl, sl3, ty3, un3, sl56, ty56, un56, sl85, ty85, un85, sl83, ty83, un83, sl5, ty5, un5, sl2, ty2, un2, sl21, ty21, un21, sl4, ty4, un4, sl9, un9, sl22, ty22, un22, ty39, sl39, ty33, sl33, inR64, inRu64, inRu32]
  simp only [lensA, lenA, lenSC] at hl
  have e : (xs.take i ++ List.replicate (xs.length - i) (0 : Int)).length = xs.length := by simp; omega
  refine ⟨fun h => ⟨by omega, ⟨e, by omega, by omega⟩, ⟨e, by omega⟩, by omega, ?_⟩, fun h => ?_⟩
  · refine klp_of (i + 1) ?_ (by omega) (by omega)
    have := copy_step (xs := xs) (i := i) (by omega)
    simp [St.conv, St.bf, getE, putE, getB, cv, cvL, cvB, idx, still, pack, lifts, liftOne, cellsOfB, setB]
    simpa using this
  · have : i = xs.length := by omega
    subst this
    refine afin_of [0] rfl rfl (by simp [St.conv, St.bf, getE, putE, getB, cv, cvL, cvB, idx, still, pack, lifts, liftOne, cellsOfB, setB]) (by simp [St.conv, St.bf, getE, putE, getB, cv, cvL, cvB, idx, still, pack, lifts, liftOne, cellsOfB, setB])
def lend_laws_toIntS : List Nat := []
def sp_laws_toIntS : List AV → List Bx → (AV → List Bx → Prop) → Prop
  | [.sl none (.ints .i64 xs)], [], K => (xs.length ≤ 1099511627776) ∧ K (.ref 0 xs.length) [.row 3 (.ints .i64 xs)]
  | _, _, _ => False
theorem at_laws_toIntS {xs : List Int} {K : AV → List Bx → Prop} : sp_laws_toIntS [.sl none (.ints .i64 xs)] [] K = ((xs.length ≤ 1099511627776) ∧ K (.ref 0 xs.length) [.row 3 (.ints .i64 xs)]) := id rfl
theorem ok_laws_toIntS : ∀ args giv K, sp_laws_toIntS args giv K → ∃ r outs, ARuns Try.prog 16 args giv r outs ∧ K r outs := by
  intro args giv K hk
  unfold sp_laws_toIntS at hk
  split at hk
  · obtain ⟨hp1, hk⟩ := hk; exact ⟨_, _, runs_laws_toIntS _ hp1, hk⟩
  · exact hk.elim
theorem is_laws_eqIntS : FnIs Try.prog 18 26 [.tmp 4] (Try.f18.body.getD .skip) := ⟨⟨Try.f18, by kernel_rfl, by kernel_rfl, by kernel_rfl, by kernel_rfl⟩, by kernel_rfl, by kernel_rfl⟩
def G_laws_eqIntS : Gm := Gm.none
theorem G_laws_eqIntS_ok : G_laws_eqIntS.ok Try.prog := Gm.none_ok
set_option maxHeartbeats 1000000 in
set_option maxRecDepth 100000 in
theorem runs_laws_eqIntS (xs ys : List Int) : ARuns Try.prog 18 [.sl none (.ints .i64 xs), .sl none (.ints .i64 ys)] [] (.bool (decide (xs = ys))) [] := by
  refine ARuns_bc G_laws_eqIntS_ok is_laws_eqIntS (by simp) fun hl hlB => ?_
  simp only [kcode_at, kreg_at, bc_skip, bc_seq, bc_cond, bc_block, bc_exit, bc_ret, bc_region, lkX_cons, acond_tmp, aCase_t, aCase_f, aCase_b, afin_nil, cvE_some, resL, resV, resC, cv, cvL, pack, entryE, inPrm, Option.getD_some, acall_clo, add_sp, add_lend, kcall_nil, selOf, selA, inArgs, inA, inL, okA, okL, okBx, okC, outA, outL, outU, outB, deep, deepL, boxIds, AV.bid, List.map_nil, List.map_cons, List.all_nil, List.all_cons, BEq.rfl, Bool.and_true, Bool.true_and, List.append_nil, aops_nil, aops_plain, aops_guard, kont_at, yes_at, no_at, aop_move, aop_assign, aop_pick, aop_alloc, aop_box, aop_build, aop_buildSlice, aop_load, aop_store, aop_nilCheck, aop_binOp, aop_unOp, aop_convert, aop_fieldAddr, aop_indexAddr, aop_slice, aop_extract, aop_makeSlice, aop_len, aop_max, aMax_int, slTy2, SC0, aop_append, aop_call, evalE, getE, putE, getB, setB, St.put, setsB, nth, AV.ofV, AV.blk, AV.bid, AV.one, SC.len, SC.get, List.length_nil, List.length_cons, Nat.reduceEqDiff, Nat.reduceAdd, ↓reduceIte, true_and, and_true, Bool.true_eq_false, Bool.false_eq_true, false_imp_iff, true_imp_iff, decide_eq_true_eq, Bool.not_eq_true', Bool.not_eq_false', decide_eq_false_iff_not, Option.isSome, List.nil_append, List.cons_append, aGuardO_some, aGuard_tt, aGuard_tf, aGuard_ft, aGuard_ff, aGuard_tb, aGuard_fb, aGuard_ts, aGuard_fs, aPick_b, aPick_t, aPick_f, aAlloc_one, aAlloc_flat, aBox_some, aBuild_flat, aInt_add, aBin_add, aInt_sub, aBin_sub, aInt_mul, aBin_mul, aInt_quo, aBin_quo, aInt_rem, aBin_rem, aInt_and, aBin_and, aInt_or, aBin_or, aInt_xor, aBin_xor, aInt_andNot, aBin_andNot, aInt_eql, aBin_eql, aInt_neq, aBin_neq, aInt_lss, aBin_lss, aInt_leq, aBin_leq, aInt_gtr, aBin_gtr, aInt_geq, aBin_geq, aBin_shl, aBin_shr, aShift_shl, aShift_shr, aBin_be1, aBin_bn1, aBin_be2, aBin_bn2, aBin_be3, aBin_bn3, aBin_be4, aBin_bn4, aBin_be5, aBin_bn5, aBin_be6, aBin_bn6, aBin_be7, aBin_bn7, aBin_be8, aBin_bn8, aBin_be9, aBin_bn9, aUn_b, aUn_t, aUn_f, aUn_i, aNil_ptr, aNil_pv, aConv_int, aField_ptr, aField_pv, aIdx_sl, aIdx_prm, aIdx_row, aIdx_drow, aMake_i, aMake_s, aExtr_tup, aLen_ref, aLen_nil, aLen_sl, aLen_prm, aLen_str, aBuildL_some, aBuildS_some, aLoad_1b, aLoad_1d, aLoad_fb, aLoad_fd, aLoad_1p, aLoad_fp, aLoad_ep, aLoad_rr, aLoad_rd, aStore_1, aStore_f, aStore_r, aApp_some, aAppend_nil, aAppend_ref, aSlice_h, aSlice_l, aSlice_lh, bc_draw, kregD_at, aopsD_nil, aopsD_plain, aopsD_guard, kontD_at, contD_at, yesD_at, noD_at, splD_bool, splD_undef, splD_skip, splD_int, splD_tt, splD_ff, splD_str, splD_nil, splD_sl, splD_prm, splD_ref, splD_ptr, splD_rp, splD_ep, splD_pv, splD_agg, splD_tup, splD_clo, gD_tt, gD_tf, gD_ft, gD_ff, gD_ts, gD_fs, slotO_some, addTr_nil, addTr_cons, memQ_nil, memQ_cons, clash_nil, clash_cons, regC_none, regC_nil, regC_cons, regR_nil, regR_cons, Int.toNat_zero, Int.toNat_one, rng0, rng1, rng2, rng3, rng4, SC.take, SC.drop, mp_nil, acond_ct, acond_cf, mp_one0, mp_one1, mp_one2, mp_one3, kcall_one, liveB_row, liveB_box, idx, cont, still, dies, lend, lendA, lendDies, snocs, SC.snoc, SC.app, meet, AV.cells, fillA, List.getD_cons_zero, List.getD_cons_succ, List.set_cons_zero, List.set_cons_succ, List.length_singleton, Nat.le_refl, Nat.lt_irrefl, Nat.reduceLT, Nat.reduceLeDiff, Option.map_some, Option.map_none, List.flatMap_nil, List.flatMap_cons, Nat.zero_add, BEq.rfl, sl3, ty3, un3, sl56, ty56, un56, sl85, ty85, un85, sl83, ty83, un83, sl5, ty5, un5, sl2, ty2, un2, sl21, ty21, un21, sl4, ty4, un4, sl9, un9, sl22, ty22, un22, ty39, sl39, ty33, sl33, inR64, inRu64, inRu32, Try.f18]
  simp only [lensA, lenA, lenSC] at hl
  refine ⟨fun h => ?_, fun h => ?_⟩
  · congr 1; symm; simp; intro e; rw [e] at h; exact h rfl
  replace h : xs.length = ys.length := by omega
  refine bc_loop (fun i : Nat => i ≤ xs.length ∧ ∀ k, k < i → xs.getD k 0 = ys.getD k 0)
    (fun i => ⟨[(0, .prm 0 (.ints .i64 xs)), (1, .prm 1 (.ints .i64 ys)), (5, .int .i64 i)], []⟩) (fun i => xs.length - i)
    [0, 1, 5] [] 0 rfl rfl (by simp) fun i ⟨h1, h2⟩ => ?_
  simp only [kcode_at, kreg_at, bc_skip, bc_seq, bc_cond, bc_block, bc_exit, bc_ret, bc_region, lkX_cons, acond_tmp, aCase_t, aCase_f, aCase_b, afin_nil, cvE_some, resL, resV, resC, cv, cvL, pack, entryE, inPrm, Option.getD_some, acall_clo, add_sp, add_lend, kcall_nil, selOf, selA, inArgs, inA, inL, okA, okL, okBx, okC, outA, outL, outU, outB, deep, deepL, boxIds, AV.bid, List.map_nil, List.map_cons, List.all_nil, List.all_cons, BEq.rfl, Bool.and_true, Bool.true_and, List.append_nil, aops_nil, aops_plain, aops_guard, kont_at, yes_at, no_at, aop_move, aop_assign, aop_pick, aop_alloc, aop_box, aop_build, aop_buildSlice, aop_load, aop_store, aop_nilCheck, aop_binOp, aop_unOp, aop_convert, aop_fieldAddr, aop_indexAddr, aop_slice, aop_extract, aop_makeSlice, aop_len, aop_max, aMax_int, slTy2, SC0, aop_append, aop_call, evalE, getE, putE, getB, setB, St.put, setsB, nth, AV.ofV, AV.blk, AV.bid, AV.one, SC.len, SC.get, List.length_nil, List.length_cons, Nat.reduceEqDiff, Nat.reduceAdd, ↓reduceIte, true_and, and_true, Bool.true_eq_false, Bool.false_eq_true, false_imp_iff, true_imp_iff, decide_eq_true_eq, Bool.not_eq_true', Bool.not_eq_false', decide_eq_false_iff_not, Option.isSome, List.nil_append, List.cons_append, aGuardO_some, aGuard_tt, aGuard_tf, aGuard_ft, aGuard_ff, aGuard_tb, aGuard_fb, aGuard_ts, aGuard_fs, aPick_b, aPick_t, aPick_f, aAlloc_one, aAlloc_flat, aBox_some, aBuild_flat, aInt_add, aBin_add, aInt_sub, aBin_sub, aInt_mul, aBin_mul, aInt_quo, aBin_quo, aInt_rem, aBin_rem, aInt_and, aBin_and, aInt_or, aBin_or, aInt_xor, aBin_xor, aInt_andNot, aBin_andNot, aInt_eql, aBin_eql, aInt_neq, aBin_neq, aInt_lss, aBin_lss, aInt_leq, aBin_leq, aInt_gtr, aBin_gtr, aInt_geq, aBin_geq, aBin_shl, aBin_shr, aShift_shl, aShift_shr, aBin_be1, aBin_bn1, aBin_be2, aBin_bn2, aBin_be3, aBin_bn3, aBin_be4, aBin_bn4, aBin_be5, aBin_bn5, aBin_be6, aBin_bn6, aBin_be7, aBin_bn7, aBin_be8, aBin_bn8, aBin_be9, aBin_bn9, aUn_b, aUn_t, aUn_f, aUn_i, aNil_ptr, aNil_pv, aConv_int, aField_ptr, aField_pv, aIdx_sl, aIdx_prm, aIdx_row, aIdx_drow, aMake_i, aMake_s, aExtr_tup, aLen_ref, aLen_nil, aLen_sl, aLen_prm, aLen_str, aBuildL_some, aBuildS_some, aLoad_1b, aLoad_1d, aLoad_fb, aLoad_fd, aLoad_1p, aLoad_fp, aLoad_ep, aLoad_rr, aLoad_rd, aStore_1, aStore_f, aStore_r, aApp_some, aAppend_nil, aAppend_ref, aSlice_h, aSlice_l, aSlice_lh, bc_draw, kregD_at, aopsD_nil, aopsD_plain, aopsD_guard, kontD_at, contD_at, yesD_at, noD_at, splD_bool, splD_undef, splD_skip, splD_int, splD_tt, splD_ff, splD_str, splD_nil, splD_sl, splD_prm, splD_ref, splD_ptr, splD_rp, splD_ep, splD_pv, splD_agg, splD_tup, splD_clo, gD_tt, gD_tf, gD_ft, gD_ff, gD_ts, gD_fs, slotO_some, addTr_nil, addTr_cons, memQ_nil, memQ_cons, clash_nil, clash_cons, regC_none, regC_nil, regC_cons, regR_nil, regR_cons, Int.toNat_zero, Int.toNat_one, rng0, rng1, rng2, rng3, rng4, SC.take, SC.drop, mp_nil, acond_ct, acond_cf, mp_one0, mp_one1, mp_one2, mp_one3, kcall_one, liveB_row, liveB_box, idx, cont, still, dies, lend, lendA, lendDies, snocs, SC.snoc, SC.app, meet, AV.cells, fillA, List.getD_cons_zero, List.getD_cons_succ, List.set_cons_zero, List.set_cons_succ, List.length_singleton, Nat.le_refl, Nat.lt_irrefl, Nat.reduceLT, Nat.reduceLeDiff, Option.map_some, Option.map_none, List.flatMap_nil, List.flatMap_cons, Nat.zero_add, BEq.rfl, sl3, ty3, un3, sl56, ty56, un56, sl85, ty85, un85, sl83, ty83, un83, sl5, ty5, un5, sl2, ty2, un2, sl21, ty21, un21, sl4, ty4, un4, sl9, un9, sl22, ty22, un22, ty39, sl39, ty33, sl33, inR64, inRu64, inRu32, Int.toNat_natCast]
  refine ⟨fun hi => ⟨by omega, by omega, fun hne => ?_, fun he => ⟨by omega, ?_⟩⟩, fun hi => ?_⟩
  · congr 1; symm; simp; intro e; rw [e] at hne; exact hne rfl
  · refine klp_of (i + 1) rfl ⟨by omega, fun k hk => ?_⟩ (by omega)
    by_cases e : k = i
    · rw [e]; exact he
    · exact h2 k (by omega)
  · congr 1; symm; simp
    exact eq_of_get h fun k hk => h2 k (by omega)
def lend_laws_eqIntS : List Nat := []
def sp_laws_eqIntS : List AV → List Bx → (AV → List Bx → Prop) → Prop
  | [.sl none (.ints .i64 xs), .sl none (.ints .i64 ys)], [], K => K (.bool (decide (xs = ys))) []
  | _, _, _ => False
theorem at_laws_eqIntS {xs ys : List Int} {K : AV → List Bx → Prop} : sp_laws_eqIntS [.sl none (.ints .i64 xs), .sl none (.ints .i64 ys)] [] K = (K (.bool (decide (xs = ys))) []) := id rfl
theorem ok_laws_eqIntS : ∀ args giv K, sp_laws_eqIntS args giv K → ∃ r outs, ARuns Try.prog 18 args giv r outs ∧ K r outs := by
  intro args giv K hk
  unfold sp_laws_eqIntS at hk
  split at hk
  · exact ⟨_, _, runs_laws_eqIntS _ _ , hk⟩
  · exact hk.elim
theorem is_laws_markIntS : FnIs Try.prog 23 19 [.tmp 4] (Try.f23.body.getD .skip) := ⟨⟨Try.f23, by kernel_rfl, by kernel_rfl, by kernel_rfl, by kernel_rfl⟩, by kernel_rfl, by kernel_rfl⟩
def G_laws_markIntS : Gm := Gm.none
theorem G_laws_markIntS_ok : G_laws_markIntS.ok Try.prog := Gm.none_ok
set_option maxHeartbeats 1000000 in
set_option maxRecDepth 100000 in
theorem runs_laws_markIntS (k : Int) (e : TypeId) (n : Nat) (xs : List Int) (hp1 : n = xs.length) (hp2 : 0 ≤ k ∧ k + xs.length ≤ 9223372036854775807) : ARuns Try.prog 23 [.ref 0 n, .int .i64 k] [.row e (.ints .i64 xs)] (.int .i64 (k + xs.length)) [.row e (.ints .i64 (iotaI k xs.length))] := by
  refine ARuns_bc G_laws_markIntS_ok is_laws_markIntS (by simp) fun hl hlB => ?_
  simp only [kcode_at, kreg_at, bc_skip, bc_seq, bc_cond, bc_block, bc_exit, bc_ret, bc_region, lkX_cons, acond_tmp, aCase_t, aCase_f, aCase_b, afin_nil, cvE_some, resL, resV, resC, cv, cvL, pack, entryE, inPrm, Option.getD_some, acall_clo, add_sp, add_lend, kcall_nil, selOf, selA, inArgs, inA, inL, okA, okL, okBx, okC, outA, outL, outU, outB, deep, deepL, boxIds, AV.bid, List.map_nil, List.map_cons, List.all_nil, List.all_cons, BEq.rfl, Bool.and_true, Bool.true_and, List.append_nil, aops_nil, aops_plain, aops_guard, kont_at, yes_at, no_at, aop_move, aop_assign, aop_pick, aop_alloc, aop_box, aop_build, aop_buildSlice, aop_load, aop_store, aop_nilCheck, aop_binOp, aop_unOp, aop_convert, aop_fieldAddr, aop_indexAddr, aop_slice, aop_extract, aop_makeSlice, aop_len, aop_max, aMax_int, slTy2, SC0, aop_append, aop_call, evalE, getE, putE, getB, setB, St.put, setsB, nth, AV.ofV, AV.blk, AV.bid, AV.one, SC.len, SC.get, List.length_nil, List.length_cons, Nat.reduceEqDiff, Nat.reduceAdd, ↓reduceIte, true_and, and_true, Bool.true_eq_false, Bool.false_eq_true, false_imp_iff, true_imp_iff, decide_eq_true_eq, Bool.not_eq_true', Bool.not_eq_false', decide_eq_false_iff_not, Option.isSome, List.nil_append, List.cons_append, aGuardO_some, aGuard_tt, aGuard_tf, aGuard_ft, aGuard_ff, aGuard_tb, aGuard_fb, aGuard_ts, aGuard_fs, aPick_b, aPick_t, aPick_f, aAlloc_one, aAlloc_flat, aBox_some, aBuild_flat, aInt_add, aBin_add, aInt_sub, aBin_sub, aInt_mul, aBin_mul, aInt_quo, aBin_quo, aInt_rem, aBin_rem, aInt_and, aBin_and, aInt_or, aBin_or, aInt_xor, aBin_xor, aInt_andNot, aBin_andNot, aInt_eql, aBin_eql, aInt_neq, aBin_neq, aInt_lss, aBin_lss, aInt_leq, aBin_leq, aInt_gtr, aBin_gtr, aInt_geq, aBin_geq, aBin_shl, aBin_shr, aShift_shl, aShift_shr, aBin_be1, aBin_bn1, aBin_be2, aBin_bn2, aBin_be3, aBin_bn3, aBin_be4, aBin_bn4, aBin_be5, aBin_bn5, aBin_be6, aBin_bn6, aBin_be7, aBin_bn7, aBin_be8, aBin_bn8, aBin_be9, aBin_bn9, aUn_b, aUn_t, aUn_f, aUn_i, aNil_ptr, aNil_pv, aConv_int, aField_ptr, aField_pv, aIdx_sl, aIdx_prm, aIdx_row, aIdx_drow, aMake_i, aMake_s, aExtr_tup, aLen_ref, aLen_nil, aLen_sl, aLen_prm, aLen_str, aBuildL_some, aBuildS_some, aLoad_1b, aLoad_1d, aLoad_fb, aLoad_fd, aLoad_1p, aLoad_fp, aLoad_ep, aLoad_rr, aLoad_rd, aStore_1, aStore_f, aStore_r, aApp_some, aAppend_nil, aAppend_ref, aSlice_h, aSlice_l, aSlice_lh, bc_draw, kregD_at, aopsD_nil, aopsD_plain, aopsD_guard, kontD_at, contD_at, yesD_at, noD_at, splD_bool, splD_undef, splD_skip, splD_int, splD_tt, splD_ff, splD_str, splD_nil, splD_sl, splD_prm, splD_ref, splD_ptr, splD_rp, splD_ep, splD_pv, splD_agg, splD_tup, splD_clo, gD_tt, gD_tf, gD_ft, gD_ff, gD_ts, gD_fs, slotO_some, addTr_nil, addTr_cons, memQ_nil, memQ_cons, clash_nil, clash_cons, regC_none, regC_nil, regC_cons, regR_nil, regR_cons, Int.toNat_zero, Int.toNat_one, rng0, rng1, rng2, rng3, rng4, SC.take, SC.drop, mp_nil, acond_ct, acond_cf, mp_one0, mp_one1, mp_one2, mp_one3, kcall_one, liveB_row, liveB_box, idx, cont, still, dies, lend, lendA, lendDies, snocs, SC.snoc, SC.app, meet, AV.cells, fillA, List.getD_cons_zero, List.getD_cons_succ, List.set_cons_zero, List.set_cons_succ, List.length_singleton, Nat.le_refl, Nat.lt_irrefl, Nat.reduceLT, Nat.reduceLeDiff, Option.map_some, Option.map_none, List.flatMap_nil, List.flatMap_cons, Nat.zero_add, BEq.rfl, sl3, ty3, un3, sl56, ty56, un56, sl85, ty85, un85, sl83, ty83, un83, sl5, ty5, un5, sl2, ty2, un2, sl21, ty21, un21, sl4, ty4, un4, sl9, un9, sl22, ty22, un22, ty39, sl39, ty33, sl33, inR64, inRu64, inRu32, Try.f23]
  subst hp1
  refine bc_loop (fun i : Nat => i ≤ xs.length)
    (fun i => ⟨[(0, .ref 0 xs.length), (1, .int .i64 (k + i)), (5, .int .i64 i)], [.row e (.ints .i64 (iotaI k i ++ xs.drop i))]⟩) (fun i => xs.length - i)
    [0, 1, 5] [0] 0 rfl (by simp [St.conv, St.bf, getE, putE, getB, cv, cvL, cvB, idx, still, pack, lifts, liftOne, cellsOfB, setB]; simp [iotaI]) (by simp) fun i h1 => ?_
  simp only [kcode_at, kreg_at, bc_skip, bc_seq, bc_cond, bc_block, bc_exit, bc_ret, bc_region, lkX_cons, acond_tmp, aCase_t, aCase_f, aCase_b, afin_nil, cvE_some, resL, resV, resC, cv, cvL, pack, entryE, inPrm, Option.getD_some, acall_clo, add_sp, add_lend, kcall_nil, selOf, selA, inArgs, inA, inL, okA, okL, okBx, okC, outA, outL, outU, outB, deep, deepL, boxIds, AV.bid, List.map_nil, List.map_cons, List.all_nil, List.all_cons, BEq.rfl, Bool.and_true, Bool.true_and, List.append_nil, aops_nil, aops_plain, aops_guard, kont_at, yes_at, no_at, aop_move, aop_assign, aop_pick, aop_alloc, aop_box, aop_build, aop_buildSlice, aop_load, aop_store, aop_nilCheck, aop_binOp, aop_unOp, aop_convert, aop_fieldAddr, aop_indexAddr, aop_slice, aop_extract, aop_makeSlice, aop_len, aop_max, aMax_int, slTy2, SC0, aop_append, aop_call, evalE, getE, putE, getB, setB, St.put, setsB, nth, AV.ofV, AV.blk, AV.bid, AV.one, SC.len, SC.get, List.length_nil, List.length_cons, Nat.reduceEqDiff, Nat.reduceAdd, ↓reduceIte, true_and, and_true, Bool.true_eq_false, Bool.false_eq_true, false_imp_iff, true_imp_iff, decide_eq_true_eq, Bool.not_eq_true', Bool.not_eq_false', decide_eq_false_iff_not, Option.isSome, List.nil_append, List.cons_append, aGuardO_some, aGuard_tt, aGuard_tf, aGuard_ft, aGuard_ff, aGuard_tb, aGuard_fb, aGuard_ts, aGuard_fs, aPick_b, aPick_t, aPick_f, aAlloc_one, aAlloc_flat, aBox_some, aBuild_flat, aInt_add, aBin_add, aInt_sub, aBin_sub, aInt_mul, aBin_mul, aInt_quo, aBin_quo, aInt_rem, aBin_rem, aInt_and, aBin_and, aInt_or, aBin_or, aInt_xor, aBin_xor, aInt_andNot, aBin_andNot, aInt_eql, aBin_eql, aInt_neq, aBin_neq, aInt_lss, aBin_lss, aInt_leq, aBin_leq, aInt_gtr, aBin_gtr, aInt_geq, aBin_geq, aBin_shl, aBin_shr, aShift_shl, aShift_shr, aBin_be1, aBin_bn1, aBin_be2, aBin_bn2, aBin_be3, aBin_bn3, aBin_be4, aBin_bn4, aBin_be5, aBin_bn5, aBin_be6, aBin_bn6, aBin_be7, aBin_bn7, aBin_be8, aBin_bn8, aBin_be9, aBin_bn9, aUn_b, aUn_t, aUn_f, aUn_i, aNil_ptr, aNil_pv, aConv_int, aField_ptr, aField_pv, aIdx_sl, aIdx_prm, aIdx_row, aIdx_drow, aMake_i, aMake_s, aExtr_tup, aLen_ref, aLen_nil, aLen_sl, aLen_prm, aLen_str, aBuildL_some, aBuildS_some, aLoad_1b, aLoad_1d, aLoad_fb, aLoad_fd, aLoad_1p, aLoad_fp, aLoad_ep, aLoad_rr, aLoad_rd, aStore_1, aStore_f, aStore_r, aApp_some, aAppend_nil, aAppend_ref, aSlice_h, aSlice_l, aSlice_lh, bc_draw, kregD_at, aopsD_nil, aopsD_plain, aopsD_guard, kontD_at, contD_at, yesD_at, noD_at, splD_bool, splD_undef, splD_skip, splD_int, splD_tt, splD_ff, splD_str, splD_nil, splD_sl, splD_prm, splD_ref, splD_ptr, splD_rp, splD_ep, splD_pv, splD_agg, splD_tup, splD_clo, gD_tt, gD_tf, gD_ft, gD_ff, gD_ts, gD_fs, slotO_some, addTr_nil, addTr_cons, memQ_nil, memQ_cons, clash_nil, clash_cons, regC_none, regC_nil, regC_cons, regR_nil, regR_cons, Int.toNat_zero, Int.toNat_one, rng0, rng1, rng2, rng3, rng4, SC.take, SC.drop, mp_nil, acond_ct, acond_cf, mp_one0, mp_one1, mp_one2, mp_one3, kcall_one, liveB_row, liveB_box, idx, cont, still, dies, lend, lendA, lendDies, snocs, SC.snoc, SC.app, meet, AV.cells, fillA, List.getD_cons_zero, List.getD_cons_succ, List.set_cons_zero, List.set_cons_succ, List.length_singleton, Nat.le_refl, Nat.lt_irrefl, Nat.reduceLT, Nat.reduceLeDiff, Option.map_some, Option.map_none, List.flatMap_nil, List.flatMap_cons, Nat.zero_add, BEq.rfl, sl3, ty3, un3, sl56, ty56, un56, sl85, ty85, un85, sl83, ty83, un83, sl5, ty5, un5, sl2, ty2, un2, sl21, ty21, un21, sl4, ty4, un4, sl9, un9, sl22, ty22, un22, ty39, sl39, ty33, sl33, inR64, inRu64, inRu32, Int.toNat_natCast]
  have el : (iotaI k i ++ xs.drop i).length = xs.length := by simp [iotaI_len]; omega
  refine ⟨fun hi => ⟨⟨el, by omega, by omega⟩, ⟨el, by omega⟩, by omega, by omega, ?_⟩, fun hi => ?_⟩
  · refine klp_of (i + 1) ?_ (by omega) (by omega)
    have := mark_step (k := k) (xs := xs) (i := i) (by omega)
    rw [this]
    simp [St.conv, St.bf, getE, putE, getB, cv, cvL, cvB, idx, still, pack, lifts, liftOne, cellsOfB, setB]
    omega
  · have : i = xs.length := by omega
    subst this
    refine afin_of [0] rfl rfl (by simp [St.conv, St.bf, getE, putE, getB, cv, cvL, cvB, idx, still, pack, lifts, liftOne, cellsOfB, setB]) (by simp [St.conv, St.bf, getE, putE, getB, cv, cvL, cvB, idx, still, pack, lifts, liftOne, cellsOfB, setB])
def lend_laws_markIntS : List Nat := [0]
def sp_laws_markIntS : List AV → List Bx → (AV → List Bx → Prop) → Prop
  | [.ref 0 n, .int .i64 k], [.row e (.ints .i64 xs)], K => (n = xs.length) ∧ (0 ≤ k ∧ k + xs.length ≤ 9223372036854775807) ∧ K (.int .i64 (k + xs.length)) [.row e (.ints .i64 (iotaI k xs.length))]
  | _, _, _ => False
theorem at_laws_markIntS {k : Int} {e : TypeId} {n : Nat} {xs : List Int} {K : AV → List Bx → Prop} : sp_laws_markIntS [.ref 0 n, .int .i64 k] [.row e (.ints .i64 xs)] K = ((n = xs.length) ∧ (0 ≤ k ∧ k + xs.length ≤ 9223372036854775807) ∧ K (.int .i64 (k + xs.length)) [.row e (.ints .i64 (iotaI k xs.length))]) := id rfl
theorem ok_laws_markIntS : ∀ args giv K, sp_laws_markIntS args giv K → ∃ r outs, ARuns Try.prog 23 args giv r outs ∧ K r outs := by
  intro args giv K hk
  unfold sp_laws_markIntS at hk
  split at hk
  · obtain ⟨hp1, hp2, hk⟩ := hk; exact ⟨_, _, runs_laws_markIntS _ _ _ _ hp1 hp2, hk⟩
  · exact hk.elim
theorem is_laws_heldIntS : FnIs Try.prog 24 21 [.tmp 4] (Try.f24.body.getD .skip) := ⟨⟨Try.f24, by kernel_rfl, by kernel_rfl, by kernel_rfl, by kernel_rfl⟩, by kernel_rfl, by kernel_rfl⟩
def G_laws_heldIntS : Gm := Gm.none
theorem G_laws_heldIntS_ok : G_laws_heldIntS.ok Try.prog := Gm.none_ok
set_option maxHeartbeats 1000000 in
set_option maxRecDepth 100000 in
theorem runs_laws_heldIntS (xs : List Int) (k : Int) (hp1 : 0 ≤ k ∧ k + xs.length ≤ 9223372036854775807) : ARuns Try.prog 24 [.sl none (.ints .i64 xs), .int .i64 k] [] (.int .i64 (heldI xs k)) [] := by
  refine ARuns_bc G_laws_heldIntS_ok is_laws_heldIntS (by simp) fun hl hlB => ?_
  simp only [kcode_at, kreg_at, bc_skip, bc_seq, bc_cond, bc_block, bc_exit, bc_ret, bc_region, lkX_cons, acond_tmp, aCase_t, aCase_f, aCase_b, afin_nil, cvE_some, resL, resV, resC, cv, cvL, pack, entryE, inPrm, Option.getD_some, acall_clo, add_sp, add_lend, kcall_nil, selOf, selA, inArgs, inA, inL, okA, okL, okBx, okC, outA, outL, outU, outB, deep, deepL, boxIds, AV.bid, List.map_nil, List.map_cons, List.all_nil, List.all_cons, BEq.rfl, Bool.and_true, Bool.true_and, List.append_nil, aops_nil, aops_plain, aops_guard, kont_at, yes_at, no_at, aop_move, aop_assign, aop_pick, aop_alloc, aop_box, aop_build, aop_buildSlice, aop_load, aop_store, aop_nilCheck, aop_binOp, aop_unOp, aop_convert, aop_fieldAddr, aop_indexAddr, aop_slice, aop_extract, aop_makeSlice, aop_len, aop_max, aMax_int, slTy2, SC0, aop_append, aop_call, evalE, getE, putE, getB, setB, St.put, setsB, nth, AV.ofV, AV.blk, AV.bid, AV.one, SC.len, SC.get, List.length_nil, List.length_cons, Nat.reduceEqDiff, Nat.reduceAdd, ↓reduceIte, true_and, and_true, Bool.true_eq_false, Bool.false_eq_true, false_imp_iff, true_imp_iff, decide_eq_true_eq, Bool.not_eq_true', Bool.not_eq_false', decide_eq_false_iff_not, Option.isSome, List.nil_append, List.cons_append, aGuardO_some, aGuard_tt, aGuard_tf, aGuard_ft, aGuard_ff, aGuard_tb, aGuard_fb, aGuard_ts, aGuard_fs, aPick_b, aPick_t, aPick_f, aAlloc_one, aAlloc_flat, aBox_some, aBuild_flat, aInt_add, aBin_add, aInt_sub, aBin_sub, aInt_mul, aBin_mul, aInt_quo, aBin_quo, aInt_rem, aBin_rem, aInt_and, aBin_and, aInt_or, aBin_or, aInt_xor, aBin_xor, aInt_andNot, aBin_andNot, aInt_eql, aBin_eql, aInt_neq, aBin_neq, aInt_lss, aBin_lss, aInt_leq, aBin_leq, aInt_gtr, aBin_gtr, aInt_geq, aBin_geq, aBin_shl, aBin_shr, aShift_shl, aShift_shr, aBin_be1, aBin_bn1, aBin_be2, aBin_bn2, aBin_be3, aBin_bn3, aBin_be4, aBin_bn4, aBin_be5, aBin_bn5, aBin_be6, aBin_bn6, aBin_be7, aBin_bn7, aBin_be8, aBin_bn8, aBin_be9, aBin_bn9, aUn_b, aUn_t, aUn_f, aUn_i, aNil_ptr, aNil_pv, aConv_int, aField_ptr, aField_pv, aIdx_sl, aIdx_prm, aIdx_row, aIdx_drow, aMake_i, aMake_s, aExtr_tup, aLen_ref, aLen_nil, aLen_sl, aLen_prm, aLen_str, aBuildL_some, aBuildS_some, aLoad_1b, aLoad_1d, aLoad_fb, aLoad_fd, aLoad_1p, aLoad_fp, aLoad_ep, aLoad_rr, aLoad_rd, aStore_1, aStore_f, aStore_r, aApp_some, aAppend_nil, aAppend_ref, aSlice_h, aSlice_l, aSlice_lh, bc_draw, kregD_at, aopsD_nil, aopsD_plain, aopsD_guard, kontD_at, contD_at, yesD_at, noD_at, splD_bool, splD_undef, splD_skip, splD_int, splD_tt, splD_ff, splD_str, splD_nil, splD_sl, splD_prm, splD_ref, splD_ptr, splD_rp, splD_ep, splD_pv, splD_agg, splD_tup, splD_clo, gD_tt, gD_tf, gD_ft, gD_ff, gD_ts, gD_fs, slotO_some, addTr_nil, addTr_cons, memQ_nil, memQ_cons, clash_nil, clash_cons, regC_none, regC_nil, regC_cons, regR_nil, regR_cons, Int.toNat_zero, Int.toNat_one, rng0, rng1, rng2, rng3, rng4, SC.take, SC.drop, mp_nil, acond_ct, acond_cf, mp_one0, mp_one1, mp_one2, mp_one3, kcall_one, liveB_row, liveB_box, idx, cont, still, dies, lend, lendA, lendDies, snocs, SC.snoc, SC.app, meet, AV.cells, fillA, List.getD_cons_zero, List.getD_cons_succ, List.set_cons_zero, List.set_cons_succ, List.length_singleton, Nat.le_refl, Nat.lt_irrefl, Nat.reduceLT, Nat.reduceLeDiff, Option.map_some, Option.map_none, List.flatMap_nil, List.flatMap_cons, Nat.zero_add, BEq.rfl, sl3, ty3, un3, sl56, ty56, un56, sl85, ty85, un85, sl83, ty83, un83, sl5, ty5, un5, sl2, ty2, un2, sl21, ty21, un21, sl4, ty4, un4, sl9, un9, sl22, ty22, un22, ty39, sl39, ty33, sl33, inR64, inRu64, inRu32, Try.f24]
  refine bc_loop (fun i : Nat => i ≤ xs.length ∧ ∀ j, j < i → xs.getD j 0 = k + j)
    (fun i => ⟨[(0, .prm 0 (.ints .i64 xs)), (1, .int .i64 (k + i)), (5, .int .i64 i)], []⟩) (fun i => xs.length - i)
    [0, 1, 5] [] 0 rfl (by simp [St.conv, St.bf, getE, putE, getB, cv, cvL, cvB, idx, still, pack, lifts, liftOne, cellsOfB, setB]) (by simp) fun i ⟨h1, h2⟩ => ?_
  simp only [kcode_at, kreg_at, bc_skip, bc_seq, bc_cond, bc_block, bc_exit, bc_ret, bc_region, lkX_cons, acond_tmp, aCase_t, aCase_f, aCase_b, afin_nil, cvE_some, resL, resV, resC, cv, cvL, pack, entryE, inPrm, Option.getD_some, acall_clo, add_sp, add_lend, kcall_nil, selOf, selA, inArgs, inA, inL, okA, okL, okBx, okC, outA, outL, outU, outB, deep, deepL, boxIds, AV.bid, List.map_nil, List.map_cons, List.all_nil, List.all_cons, BEq.rfl, Bool.and_true, Bool.true_and, List.append_nil, aops_nil, aops_plain, aops_guard, kont_at, yes_at, no_at, aop_move, aop_assign, aop_pick, aop_alloc, aop_box, aop_build, aop_buildSlice, aop_load, aop_store, aop_nilCheck, aop_binOp, aop_unOp, aop_convert, aop_fieldAddr, aop_indexAddr, aop_slice, aop_extract, aop_makeSlice, aop_len, aop_max, aMax_int, slTy2, SC0, aop_append, aop_call, evalE, getE, putE, getB, setB, St.put, setsB, nth, AV.ofV, AV.blk, AV.bid, AV.one, SC.len, SC.get, List.length_nil, List.length_cons, Nat.reduceEqDiff, Nat.reduceAdd, ↓reduceIte, true_and, and_true, Bool.true_eq_false, Bool.false_eq_true, false_imp_iff, true_imp_iff, decide_eq_true_eq, Bool.not_eq_true', Bool.not_eq_false', decide_eq_false_iff_not, Option.isSome, List.nil_append, List.cons_append, aGuardO_some, aGuard_tt, aGuard_tf, aGuard_ft, aGuard_ff, aGuard_tb, aGuard_fb, aGuard_ts, aGuard_fs, aPick_b, aPick_t, aPick_f, aAlloc_one, aAlloc_flat, aBox_some, aBuild_flat, aInt_add, aBin_add, aInt_sub, aBin_sub, aInt_mul, aBin_mul, aInt_quo, aBin_quo, aInt_rem, aBin_rem, aInt_and, aBin_and, aInt_or, aBin_or, aInt_xor, aBin_xor, aInt_andNot, aBin_andNot, aInt_eql, aBin_eql, aInt_neq, aBin_neq, aInt_lss, aBin_lss, aInt_leq, aBin_leq, aInt_gtr, aBin_gtr, aInt_geq, aBin_geq, aBin_shl, aBin_shr, aShift_shl, aShift_shr, aBin_be1, aBin_bn1, aBin_be2, aBin_bn2, aBin_be3, aBin_bn3, aBin_be4, aBin_bn4, aBin_be5, aBin_bn5, aBin_be6, aBin_bn6, aBin_be7, aBin_bn7, aBin_be8, aBin_bn8, aBin_be9, aBin_bn9, aUn_b, aUn_t, aUn_f, aUn_i, aNil_ptr, aNil_pv, aConv_int, aField_ptr, aField_pv, aIdx_sl, aIdx_prm, aIdx_row, aIdx_drow, aMake_i, aMake_s, aExtr_tup, aLen_ref, aLen_nil, aLen_sl, aLen_prm, aLen_str, aBuildL_some, aBuildS_some, aLoad_1b, aLoad_1d, aLoad_fb, aLoad_fd, aLoad_1p, aLoad_fp, aLoad_ep, aLoad_rr, aLoad_rd, aStore_1, aStore_f, aStore_r, aApp_some, aAppend_nil, aAppend_ref, aSlice_h, aSlice_l, aSlice_lh, bc_draw, kregD_at, aopsD_nil, aopsD_plain, aopsD_guard, kontD_at, contD_at, yesD_at, noD_at, splD_bool, splD_undef, splD_skip, splD_int, splD_tt, splD_ff, splD_str, splD_nil, splD_sl, splD_prm, splD_ref, splD_ptr, splD_rp, splD_ep, splD_pv, splD_agg, splD_tup, splD_clo, gD_tt, gD_tf, gD_ft, gD_ff, gD_ts, gD_fs, slotO_some, addTr_nil, addTr_cons, memQ_nil, memQ_cons, clash_nil, clash_cons, regC_none, regC_nil, regC_cons, regR_nil, regR_cons, Int.toNat_zero, Int.toNat_one, rng0, rng1, rng2, rng3, rng4, SC.take, SC.drop, mp_nil, acond_ct, acond_cf, mp_one0, mp_one1, mp_one2, mp_one3, kcall_one, liveB_row, liveB_box, idx, cont, still, dies, lend, lendA, lendDies, snocs, SC.snoc, SC.app, meet, AV.cells, fillA, List.getD_cons_zero, List.getD_cons_succ, List.set_cons_zero, List.set_cons_succ, List.length_singleton, Nat.le_refl, Nat.lt_irrefl, Nat.reduceLT, Nat.reduceLeDiff, Option.map_some, Option.map_none, List.flatMap_nil, List.flatMap_cons, Nat.zero_add, BEq.rfl, sl3, ty3, un3, sl56, ty56, un56, sl85, ty85, un85, sl83, ty83, un83, sl5, ty5, un5, sl2, ty2, un2, sl21, ty21, un21, sl4, ty4, un4, sl9, un9, sl22, ty22, un22, ty39, sl39, ty33, sl33, inR64, inRu64, inRu32, Int.toNat_natCast]
  refine ⟨fun hi => ⟨by omega, fun h => ?_, fun h => ⟨by omega, by omega, ?_⟩⟩, fun hi => ?_⟩
  · rw [heldI_f (i := i) (by omega) h]
  · refine klp_of (i + 1) ?_ ⟨by omega, fun j hj => ?_⟩ (by omega)
    · simp [St.conv, St.bf, getE, putE, getB, cv, cvL, cvB, idx, still, pack, lifts, liftOne, cellsOfB, setB]
      omega
    · by_cases e : j = i
      · rw [e]; exact h
      · exact h2 j (by omega)
  · have : i = xs.length := by omega
    subst this
    rw [heldI_t h2]
def lend_laws_heldIntS : List Nat := []
def sp_laws_heldIntS : List AV → List Bx → (AV → List Bx → Prop) → Prop
  | [.sl none (.ints .i64 xs), .int .i64 k], [], K => (0 ≤ k ∧ k + xs.length ≤ 9223372036854775807) ∧ K (.int .i64 (heldI xs k)) []
  | _, _, _ => False
theorem at_laws_heldIntS {xs : List Int} {k : Int} {K : AV → List Bx → Prop} : sp_laws_heldIntS [.sl none (.ints .i64 xs), .int .i64 k] [] K = ((0 ≤ k ∧ k + xs.length ≤ 9223372036854775807) ∧ K (.int .i64 (heldI xs k)) []) := id rfl
theorem ok_laws_heldIntS : ∀ args giv K, sp_laws_heldIntS args giv K → ∃ r outs, ARuns Try.prog 24 args giv r outs ∧ K r outs := by
  intro args giv K hk
  unfold sp_laws_heldIntS at hk
  split at hk
  · obtain ⟨hp1, hk⟩ := hk; exact ⟨_, _, runs_laws_heldIntS _ _ hp1, hk⟩
  · exact hk.elim
theorem is_spec_l1In : FnIs Try.prog 57 15 [.tmp 6] (Try.f57.body.getD .skip) := ⟨⟨Try.f57, by kernel_rfl, by kernel_rfl, by kernel_rfl, by kernel_rfl⟩, by kernel_rfl, by kernel_rfl⟩
def G_spec_l1In : Gm := Gm.none
theorem G_spec_l1In_ok : G_spec_l1In.ok Try.prog := Gm.none_ok
set_option maxHeartbeats 1000000 in
set_option maxRecDepth 100000 in
theorem runs_spec_l1In (n l m : Int) : ARuns Try.prog 57 [.int .i64 n, .int .i64 l, .int .i64 m] [] (.bool (inB n l m)) [] := by
  refine ARuns_bc G_spec_l1In_ok is_spec_l1In (by simp) fun hl hlB => ?_
  simp only [kcode_at, kreg_at, bc_skip, bc_seq, bc_cond, bc_block, bc_exit, bc_ret, bc_region, lkX_cons, acond_tmp, aCase_t, aCase_f, aCase_b, afin_nil, cvE_some, resL, resV, resC, cv, cvL, pack, entryE, inPrm, Option.getD_some, acall_clo, add_sp, add_lend, kcall_nil, selOf, selA, inArgs, inA, inL, okA, okL, okBx, okC, outA, outL, outU, outB, deep, deepL, boxIds, AV.bid, List.map_nil, List.map_cons, List.all_nil, List.all_cons, BEq.rfl, Bool.and_true, Bool.true_and, List.append_nil, aops_nil, aops_plain, aops_guard, kont_at, yes_at, no_at, aop_move, aop_assign, aop_pick, aop_alloc, aop_box, aop_build, aop_buildSlice, aop_load, aop_store, aop_nilCheck, aop_binOp, aop_unOp, aop_convert, aop_fieldAddr, aop_indexAddr, aop_slice, aop_extract, aop_makeSlice, aop_len, aop_max, aMax_int, slTy2, SC0, aop_append, aop_call, evalE, getE, putE, getB, setB, St.put, setsB, nth, AV.ofV, AV.blk, AV.bid, AV.one, SC.len, SC.get, List.length_nil, List.length_cons, Nat.reduceEqDiff, Nat.reduceAdd, ↓reduceIte, true_and, and_true, Bool.true_eq_false, Bool.false_eq_true, false_imp_iff, true_imp_iff, decide_eq_true_eq, Bool.not_eq_true', Bool.not_eq_false', decide_eq_false_iff_not, Option.isSome, List.nil_append, List.cons_append, aGuardO_some, aGuard_tt, aGuard_tf, aGuard_ft, aGuard_ff, aGuard_tb, aGuard_fb, aGuard_ts, aGuard_fs, aPick_b, aPick_t, aPick_f, aAlloc_one, aAlloc_flat, aBox_some, aBuild_flat, aInt_add, aBin_add, aInt_sub, aBin_sub, aInt_mul, aBin_mul, aInt_quo, aBin_quo, aInt_rem, aBin_rem, aInt_and, aBin_and, aInt_or, aBin_or, aInt_xor, aBin_xor, aInt_andNot, aBin_andNot, aInt_eql, aBin_eql, aInt_neq, aBin_neq, aInt_lss, aBin_lss, aInt_leq, aBin_leq, aInt_gtr, aBin_gtr, aInt_geq, aBin_geq, aBin_shl, aBin_shr, aShift_shl, aShift_shr, aBin_be1, aBin_bn1, aBin_be2, aBin_bn2, aBin_be3, aBin_bn3, aBin_be4, aBin_bn4, aBin_be5, aBin_bn5, aBin_be6, aBin_bn6, aBin_be7, aBin_bn7, aBin_be8, aBin_bn8, aBin_be9, aBin_bn9, aUn_b, aUn_t, aUn_f, aUn_i, aNil_ptr, aNil_pv, aConv_int, aField_ptr, aField_pv, aIdx_sl, aIdx_prm, aIdx_row, aIdx_drow, aMake_i, aMake_s, aExtr_tup, aLen_ref, aLen_nil, aLen_sl, aLen_prm, aLen_str, aBuildL_some, aBuildS_some, aLoad_1b, aLoad_1d, aLoad_fb, aLoad_fd, aLoad_1p, aLoad_fp, aLoad_ep, aLoad_rr, aLoad_rd, aStore_1, aStore_f, aStore_r, aApp_some, aAppend_nil, aAppend_ref, aSlice_h, aSlice_l, aSlice_lh, bc_draw, kregD_at, aopsD_nil, aopsD_plain, aopsD_guard, kontD_at, contD_at, yesD_at, noD_at, splD_bool, splD_undef, splD_skip, splD_int, splD_tt, splD_ff, splD_str, splD_nil, splD_sl, splD_prm, splD_ref, splD_ptr, splD_rp, splD_ep, splD_pv, splD_agg, splD_tup, splD_clo, gD_tt, gD_tf, gD_ft, gD_ff, gD_ts, gD_fs, slotO_some, addTr_nil, addTr_cons, memQ_nil, memQ_cons, clash_nil, clash_cons, regC_none, regC_nil, regC_cons, regR_nil, regR_cons, Int.toNat_zero, Int.toNat_one, rng0, rng1, rng2, rng3, rng4, SC.take, SC.drop, mp_nil, acond_ct, acond_cf, mp_one0, mp_one1, mp_one2, mp_one3, kcall_one, liveB_row, liveB_box, idx, cont, still, dies, lend, lendA, lendDies, snocs, SC.snoc, SC.app, meet, AV.cells, fillA, List.getD_cons_zero, List.getD_cons_succ, List.set_cons_zero, List.set_cons_succ, List.length_singleton, Nat.le_refl, Nat.lt_irrefl, Nat.reduceLT, Nat.reduceLeDiff, Option.map_some, Option.map_none, List.flatMap_nil, List.flatMap_cons, Nat.zero_add, BEq.rfl, sl3, ty3, un3, sl56, ty56, un56, sl85, ty85, un85, sl83, ty83, un83, sl5, ty5, un5, sl2, ty2, un2, sl21, ty21, un21, sl4, ty4, un4, sl9, un9, sl22, ty22, un22, ty39, sl39, ty33, sl33, inR64, inRu64, inRu32, Try.f57]
  refine ⟨fun h => ?_, fun h => ?_⟩ <;> simp [h, inB]
def lend_spec_l1In : List Nat := []
def sp_spec_l1In : List AV → List Bx → (AV → List Bx → Prop) → Prop
  | [.int .i64 n, .int .i64 l, .int .i64 m], [], K => K (.bool (inB n l m)) []
  | _, _, _ => False
theorem at_spec_l1In {n l m : Int} {K : AV → List Bx → Prop} : sp_spec_l1In [.int .i64 n, .int .i64 l, .int .i64 m] [] K = (K (.bool (inB n l m)) []) := id rfl
theorem ok_spec_l1In : ∀ args giv K, sp_spec_l1In args giv K → ∃ r outs, ARuns Try.prog 57 args giv r outs ∧ K r outs := by
  intro args giv K hk
  unfold sp_spec_l1In at hk
  split at hk
  · exact ⟨_, _, runs_spec_l1In _ _ _ , hk⟩
  · exact hk.elim
theorem is_spec_l2Full : FnIs Try.prog 87 6 [.tmp 2] (Try.f87.body.getD .skip) := ⟨⟨Try.f87, by kernel_rfl, by kernel_rfl, by kernel_rfl, by kernel_rfl⟩, by kernel_rfl, by kernel_rfl⟩
def G_spec_l2Full : Gm := Gm.none
theorem G_spec_l2Full_ok : G_spec_l2Full.ok Try.prog := Gm.none_ok
set_option maxHeartbeats 1000000 in
set_option maxRecDepth 100000 in
theorem runs_spec_l2Full (n : Int) (hp1 : 0 ≤ n ∧ n ≤ 10) : ARuns Try.prog 87 [.int .i64 n] [] (.int .i64 (fullI n)) [] := by
  refine ARuns_bc G_spec_l2Full_ok is_spec_l2Full (by simp) fun hl hlB => ?_
  simp only [kcode_at, kreg_at, bc_skip, bc_seq, bc_cond, bc_block, bc_exit, bc_ret, bc_region, lkX_cons, acond_tmp, aCase_t, aCase_f, aCase_b, afin_nil, cvE_some, resL, resV, resC, cv, cvL, pack, entryE, inPrm, Option.getD_some, acall_clo, add_sp, add_lend, kcall_nil, selOf, selA, inArgs, inA, inL, okA, okL, okBx, okC, outA, outL, outU, outB, deep, deepL, boxIds, AV.bid, List.map_nil, List.map_cons, List.all_nil, List.all_cons, BEq.rfl, Bool.and_true, Bool.true_and, List.append_nil, aops_nil, aops_plain, aops_guard, kont_at, yes_at, no_at, aop_move, aop_assign, aop_pick, aop_alloc, aop_box, aop_build, aop_buildSlice, aop_load, aop_store, aop_nilCheck, aop_binOp, aop_unOp, aop_convert, aop_fieldAddr, aop_indexAddr, aop_slice, aop_extract, aop_makeSlice, aop_len, aop_max, aMax_int, slTy2, SC0, aop_append, aop_call, evalE, getE, putE, getB, setB, St.put, setsB, nth, AV.ofV, AV.blk, AV.bid, AV.one, SC.len, SC.get, List.length_nil, List.length_cons, Nat.reduceEqDiff, Nat.reduceAdd, ↓reduceIte, true_and, and_true, Bool.true_eq_false, Bool.false_eq_true, false_imp_iff, true_imp_iff, decide_eq_true_eq, Bool.not_eq_true', Bool.not_eq_false', decide_eq_false_iff_not, Option.isSome, List.nil_append, List.cons_append, aGuardO_some, aGuard_tt, aGuard_tf, aGuard_ft, aGuard_ff, aGuard_tb, aGuard_fb, aGuard_ts, aGuard_fs, aPick_b, aPick_t, aPick_f, aAlloc_one, aAlloc_flat, aBox_some, aBuild_flat, aInt_add, aBin_add, aInt_sub, aBin_sub, aInt_mul, aBin_mul, aInt_quo, aBin_quo, aInt_rem, aBin_rem, aInt_and, aBin_and, aInt_or, aBin_or, aInt_xor, aBin_xor, aInt_andNot, aBin_andNot, aInt_eql, aBin_eql, aInt_neq, aBin_neq, aInt_lss, aBin_lss, aInt_leq, aBin_leq, aInt_gtr, aBin_gtr, aInt_geq, aBin_geq, aBin_shl, aBin_shr, aShift_shl, aShift_shr, aBin_be1, aBin_bn1, aBin_be2, aBin_bn2, aBin_be3, aBin_bn3, aBin_be4, aBin_bn4, aBin_be5, aBin_bn5, aBin_be6, aBin_bn6, aBin_be7, aBin_bn7, aBin_be8, aBin_bn8, aBin_be9, aBin_bn9, aUn_b, aUn_t, aUn_f, aUn_i, aNil_ptr, aNil_pv, aConv_int, aField_ptr, aField_pv, aIdx_sl, aIdx_prm, aIdx_row, aIdx_drow, aMake_i, aMake_s, aExtr_tup, aLen_ref, aLen_nil, aLen_sl, aLen_prm, aLen_str, aBuildL_some, aBuildS_some, aLoad_1b, aLoad_1d, aLoad_fb, aLoad_fd, aLoad_1p, aLoad_fp, aLoad_ep, aLoad_rr, aLoad_rd, aStore_1, aStore_f, aStore_r, aApp_some, aAppend_nil, aAppend_ref, aSlice_h, aSlice_l, aSlice_lh, bc_draw, kregD_at, aopsD_nil, aopsD_plain, aopsD_guard, kontD_at, contD_at, yesD_at, noD_at, splD_bool, splD_undef, splD_skip, splD_int, splD_tt, splD_ff, splD_str, splD_nil, splD_sl, splD_prm, splD_ref, splD_ptr, splD_rp, splD_ep, splD_pv, splD_agg, splD_tup, splD_clo, gD_tt, gD_tf, gD_ft, gD_ff, gD_ts, gD_fs, slotO_some, addTr_nil, addTr_cons, memQ_nil, memQ_cons, clash_nil, clash_cons, regC_none, regC_nil, regC_cons, regR_nil, regR_cons, Int.toNat_zero, Int.toNat_one, rng0, rng1, rng2, rng3, rng4, SC.take, SC.drop, mp_nil, acond_ct, acond_cf, mp_one0, mp_one1, mp_one2, mp_one3, kcall_one, liveB_row, liveB_box, idx, cont, still, dies, lend, lendA, lendDies, snocs, SC.snoc, SC.app, meet, AV.cells, fillA, List.getD_cons_zero, List.getD_cons_succ, List.set_cons_zero, List.set_cons_succ, List.length_singleton, Nat.le_refl, Nat.lt_irrefl, Nat.reduceLT, Nat.reduceLeDiff, Option.map_some, Option.map_none, List.flatMap_nil, List.flatMap_cons, Nat.zero_add, BEq.rfl, sl3, ty3, un3, sl56, ty56, un56, sl85, ty85, un85, sl83, ty83, un83, sl5, ty5, un5, sl2, ty2, un2, sl21, ty21, un21, sl4, ty4, un4, sl9, un9, sl22, ty22, un22, ty39, sl39, ty33, sl33, inR64, inRu64, inRu32, Try.f87]
  have h := full_bd hp1
  have e : 1 * 2 ^ n.toNat - 1 = fullI n := by unfold fullI; omega
  have e2 : (1 : Int) * 2 ^ n.toNat = fullI n + 1 := by omega
  simp only [IntKind.bits]
  rw [e, e2]
  (repeat' (first | apply And.intro | intro _)) <;> try (first | omega | trivial)
def lend_spec_l2Full : List Nat := []
def sp_spec_l2Full : List AV → List Bx → (AV → List Bx → Prop) → Prop
  | [.int .i64 n], [], K => (0 ≤ n ∧ n ≤ 10) ∧ K (.int .i64 (fullI n)) []
  | _, _, _ => False
theorem at_spec_l2Full {n : Int} {K : AV → List Bx → Prop} : sp_spec_l2Full [.int .i64 n] [] K = ((0 ≤ n ∧ n ≤ 10) ∧ K (.int .i64 (fullI n)) []) := id rfl
theorem ok_spec_l2Full : ∀ args giv K, sp_spec_l2Full args giv K → ∃ r outs, ARuns Try.prog 87 args giv r outs ∧ K r outs := by
  intro args giv K hk
  unfold sp_spec_l2Full at hk
  split at hk
  · obtain ⟨hp1, hk⟩ := hk; exact ⟨_, _, runs_spec_l2Full _ hp1, hk⟩
  · exact hk.elim
theorem is_spec_l28Lists : FnIs Try.prog 48 28 [.tmp 4] (Try.f48.body.getD .skip) := ⟨⟨Try.f48, by kernel_rfl, by kernel_rfl, by kernel_rfl, by kernel_rfl⟩, by kernel_rfl, by kernel_rfl⟩
def G_spec_l28Lists : Gm := ((Gm.none.add 57 lend_spec_l1In sp_spec_l1In).add 87 lend_spec_l2Full sp_spec_l2Full)
theorem G_spec_l28Lists_ok : G_spec_l28Lists.ok Try.prog := (Gm.add_ok (Gm.add_ok Gm.none_ok ok_spec_l1In) ok_spec_l2Full)
theorem gs_spec_l28Lists_57 : G_spec_l28Lists.sp 57 = sp_spec_l1In ∧ G_spec_l28Lists.lend 57 = lend_spec_l1In := ⟨rfl, rfl⟩
theorem gs_spec_l28Lists_87 : G_spec_l28Lists.sp 87 = sp_spec_l2Full ∧ G_spec_l28Lists.lend 87 = lend_spec_l2Full := ⟨rfl, rfl⟩
set_option maxHeartbeats 1000000 in
set_option maxRecDepth 100000 in
theorem runs_spec_l28Lists (n : Int) (xs : List Int) : ARuns Try.prog 48 [.int .i64 n, .sl none (.ints .i64 xs)] [] (.bool (fewB n xs)) [] := by
  refine ARuns_bc G_spec_l28Lists_ok is_spec_l28Lists (by simp) fun hl hlB => ?_
  simp only [kcode_at, kreg_at, bc_skip, bc_seq, bc_cond, bc_block, bc_exit, bc_ret, bc_region, lkX_cons, acond_tmp, aCase_t, aCase_f, aCase_b, afin_nil, cvE_some, resL, resV, resC, cv, cvL, pack, entryE, inPrm, Option.getD_some, acall_clo, add_sp, add_lend, kcall_nil, selOf, selA, inArgs, inA, inL, okA, okL, okBx, okC, outA, outL, outU, outB, deep, deepL, boxIds, AV.bid, List.map_nil, List.map_cons, List.all_nil, List.all_cons, BEq.rfl, Bool.and_true, Bool.true_and, List.append_nil, aops_nil, aops_plain, aops_guard, kont_at, yes_at, no_at, aop_move, aop_assign, aop_pick, aop_alloc, aop_box, aop_build, aop_buildSlice, aop_load, aop_store, aop_nilCheck, aop_binOp, aop_unOp, aop_convert, aop_fieldAddr, aop_indexAddr, aop_slice, aop_extract, aop_makeSlice, aop_len, aop_max, aMax_int, slTy2, SC0, aop_append, aop_call, evalE, getE, putE, getB, setB, St.put, setsB, nth, AV.ofV, AV.blk, AV.bid, AV.one, SC.len, SC.get, List.length_nil, List.length_cons, Nat.reduceEqDiff, Nat.reduceAdd, ↓reduceIte, true_and, and_true, Bool.true_eq_false, Bool.false_eq_true, false_imp_iff, true_imp_iff, decide_eq_true_eq, Bool.not_eq_true', Bool.not_eq_false', decide_eq_false_iff_not, Option.isSome, List.nil_append, List.cons_append, aGuardO_some, aGuard_tt, aGuard_tf, aGuard_ft, aGuard_ff, aGuard_tb, aGuard_fb, aGuard_ts, aGuard_fs, aPick_b, aPick_t, aPick_f, aAlloc_one, aAlloc_flat, aBox_some, aBuild_flat, aInt_add, aBin_add, aInt_sub, aBin_sub, aInt_mul, aBin_mul, aInt_quo, aBin_quo, aInt_rem, aBin_rem, aInt_and, aBin_and, aInt_or, aBin_or, aInt_xor, aBin_xor, aInt_andNot, aBin_andNot, aInt_eql, aBin_eql, aInt_neq, aBin_neq, aInt_lss, aBin_lss, aInt_leq, aBin_leq, aInt_gtr, aBin_gtr, aInt_geq, aBin_geq, aBin_shl, aBin_shr, aShift_shl, aShift_shr, aBin_be1, aBin_bn1, aBin_be2, aBin_bn2, aBin_be3, aBin_bn3, aBin_be4, aBin_bn4, aBin_be5, aBin_bn5, aBin_be6, aBin_bn6, aBin_be7, aBin_bn7, aBin_be8, aBin_bn8, aBin_be9, aBin_bn9, aUn_b, aUn_t, aUn_f, aUn_i, aNil_ptr, aNil_pv, aConv_int, aField_ptr, aField_pv, aIdx_sl, aIdx_prm, aIdx_row, aIdx_drow, aMake_i, aMake_s, aExtr_tup, aLen_ref, aLen_nil, aLen_sl, aLen_prm, aLen_str, aBuildL_some, aBuildS_some, aLoad_1b, aLoad_1d, aLoad_fb, aLoad_fd, aLoad_1p, aLoad_fp, aLoad_ep, aLoad_rr, aLoad_rd, aStore_1, aStore_f, aStore_r, aApp_some, aAppend_nil, aAppend_ref, aSlice_h, aSlice_l, aSlice_lh, bc_draw, kregD_at, aopsD_nil, aopsD_plain, aopsD_guard, kontD_at, contD_at, yesD_at, noD_at, splD_bool, splD_undef, splD_skip, splD_int, splD_tt, splD_ff, splD_str, splD_nil, splD_sl, splD_prm, splD_ref, splD_ptr, splD_rp, splD_ep, splD_pv, splD_agg, splD_tup, splD_clo, gD_tt, gD_tf, gD_ft, gD_ff, gD_ts, gD_fs, slotO_some, addTr_nil, addTr_cons, memQ_nil, memQ_cons, clash_nil, clash_cons, regC_none, regC_nil, regC_cons, regR_nil, regR_cons, Int.toNat_zero, Int.toNat_one, rng0, rng1, rng2, rng3, rng4, SC.take, SC.drop, mp_nil, acond_ct, acond_cf, mp_one0, mp_one1, mp_one2, mp_one3, kcall_one, liveB_row, liveB_box, idx, cont, still, dies, lend, lendA, lendDies, snocs, SC.snoc, SC.app, meet, AV.cells, fillA, List.getD_cons_zero, List.getD_cons_succ, List.set_cons_zero, List.set_cons_succ, List.length_singleton, Nat.le_refl, Nat.lt_irrefl, Nat.reduceLT, Nat.reduceLeDiff, Option.map_some, Option.map_none, List.flatMap_nil, List.flatMap_cons, Nat.zero_add, BEq.rfl, sl3, ty3, un3, sl56, ty56, un56, sl85, ty85, un85, sl83, ty83, un83, sl5, ty5, un5, sl2, ty2, un2, sl21, ty21, un21, sl4, ty4, un4, sl9, un9, sl22, ty22, un22, ty39, sl39, ty33, sl33, inR64, inRu64, inRu32, gs_spec_l28Lists_57, at_spec_l1In, lend_spec_l1In, gs_spec_l28Lists_87, at_spec_l2Full, lend_spec_l2Full, Try.f48]
  simp only [lensA, lenA, lenSC] at hl
  refine ⟨fun h => by rw [fewB, setsOk, h]; simp, fun hn => ⟨fun h => by rw [fewB, decide_eq_false (by omega)]; rfl, fun h6 => ?_⟩⟩
  have e6 : decide (xs.length ≤ 6) = true := decide_eq_true (by omega)
  refine bc_loop (fun i : Nat => i ≤ xs.length ∧ ∀ k, k < i → inS n (xs.getD k 0) = true)
    (fun i => ⟨[(0, .int .i64 n), (1, .prm 1 (.ints .i64 xs)), (5, .int .i64 i)], []⟩) (fun i => xs.length - i)
    [0, 1, 5] [] 0 rfl rfl (by simp) fun i ⟨h1, h2⟩ => ?_
  simp only [kcode_at, kreg_at, bc_skip, bc_seq, bc_cond, bc_block, bc_exit, bc_ret, bc_region, lkX_cons, acond_tmp, aCase_t, aCase_f, aCase_b, afin_nil, cvE_some, resL, resV, resC, cv, cvL, pack, entryE, inPrm, Option.getD_some, acall_clo, add_sp, add_lend, kcall_nil, selOf, selA, inArgs, inA, inL, okA, okL, okBx, okC, outA, outL, outU, outB, deep, deepL, boxIds, AV.bid, List.map_nil, List.map_cons, List.all_nil, List.all_cons, BEq.rfl, Bool.and_true, Bool.true_and, List.append_nil, aops_nil, aops_plain, aops_guard, kont_at, yes_at, no_at, aop_move, aop_assign, aop_pick, aop_alloc, aop_box, aop_build, aop_buildSlice, aop_load, aop_store, aop_nilCheck, aop_binOp, aop_unOp, aop_convert, aop_fieldAddr, aop_indexAddr, aop_slice, aop_extract, aop_makeSlice, aop_len, aop_max, aMax_int, slTy2, SC0, aop_append, aop_call, evalE, getE, putE, getB, setB, St.put, setsB, nth, AV.ofV, AV.blk, AV.bid, AV.one, SC.len, SC.get, List.length_nil, List.length_cons, Nat.reduceEqDiff, Nat.reduceAdd, ↓reduceIte, true_and, and_true, Bool.true_eq_false, Bool.false_eq_true, false_imp_iff, true_imp_iff, decide_eq_true_eq, Bool.not_eq_true', Bool.not_eq_false', decide_eq_false_iff_not, Option.isSome, List.nil_append, List.cons_append, aGuardO_some, aGuard_tt, aGuard_tf, aGuard_ft, aGuard_ff, aGuard_tb, aGuard_fb, aGuard_ts, aGuard_fs, aPick_b, aPick_t, aPick_f, aAlloc_one, aAlloc_flat, aBox_some, aBuild_flat, aInt_add, aBin_add, aInt_sub, aBin_sub, aInt_mul, aBin_mul, aInt_quo, aBin_quo, aInt_rem, aBin_rem, aInt_and, aBin_and, aInt_or, aBin_or, aInt_xor, aBin_xor, aInt_andNot, aBin_andNot, aInt_eql, aBin_eql, aInt_neq, aBin_neq, aInt_lss, aBin_lss, aInt_leq, aBin_leq, aInt_gtr, aBin_gtr, aInt_geq, aBin_geq, aBin_shl, aBin_shr, aShift_shl, aShift_shr, aBin_be1, aBin_bn1, aBin_be2, aBin_bn2, aBin_be3, aBin_bn3, aBin_be4, aBin_bn4, aBin_be5, aBin_bn5, aBin_be6, aBin_bn6, aBin_be7, aBin_bn7, aBin_be8, aBin_bn8, aBin_be9, aBin_bn9, aUn_b, aUn_t, aUn_f, aUn_i, aNil_ptr, aNil_pv, aConv_int, aField_ptr, aField_pv, aIdx_sl, aIdx_prm, aIdx_row, aIdx_drow, aMake_i, aMake_s, aExtr_tup, aLen_ref, aLen_nil, aLen_sl, aLen_prm, aLen_str, aBuildL_some, aBuildS_some, aLoad_1b, aLoad_1d, aLoad_fb, aLoad_fd, aLoad_1p, aLoad_fp, aLoad_ep, aLoad_rr, aLoad_rd, aStore_1, aStore_f, aStore_r, aApp_some, aAppend_nil, aAppend_ref, aSlice_h, aSlice_l, aSlice_lh, bc_draw, kregD_at, aopsD_nil, aopsD_plain, aopsD_guard, kontD_at, contD_at, yesD_at, noD_at, splD_bool, splD_undef, splD_skip, splD_int, splD_tt, splD_ff, splD_str, splD_nil, splD_sl, splD_prm, splD_ref, splD_ptr, splD_rp, splD_ep, splD_pv, splD_agg, splD_tup, splD_clo, gD_tt, gD_tf, gD_ft, gD_ff, gD_ts, gD_fs, slotO_some, addTr_nil, addTr_cons, memQ_nil, memQ_cons, clash_nil, clash_cons, regC_none, regC_nil, regC_cons, regR_nil, regR_cons, Int.toNat_zero, Int.toNat_one, rng0, rng1, rng2, rng3, rng4, SC.take, SC.drop, mp_nil, acond_ct, acond_cf, mp_one0, mp_one1, mp_one2, mp_one3, kcall_one, liveB_row, liveB_box, idx, cont, still, dies, lend, lendA, lendDies, snocs, SC.snoc, SC.app, meet, AV.cells, fillA, List.getD_cons_zero, List.getD_cons_succ, List.set_cons_zero, List.set_cons_succ, List.length_singleton, Nat.le_refl, Nat.lt_irrefl, Nat.reduceLT, Nat.reduceLeDiff, Option.map_some, Option.map_none, List.flatMap_nil, List.flatMap_cons, Nat.zero_add, BEq.rfl, sl3, ty3, un3, sl56, ty56, un56, sl85, ty85, un85, sl83, ty83, un83, sl5, ty5, un5, sl2, ty2, un2, sl21, ty21, un21, sl4, ty4, un4, sl9, un9, sl22, ty22, un22, ty39, sl39, ty33, sl33, inR64, inRu64, inRu32, gs_spec_l28Lists_57, at_spec_l1In, lend_spec_l1In, gs_spec_l28Lists_87, at_spec_l2Full, lend_spec_l2Full, Int.toNat_natCast]
  have hb := hn
  rw [inB_t] at hb
  have eS : inB (xs.getD i 0) 0 (fullI n) = inS n (xs.getD i 0) := rfl
  rw [eS]
  refine ⟨fun hi => ⟨by omega, by omega, fun ht => ⟨by omega, ?_⟩, fun hf => ?_⟩, fun hi => ?_⟩
  · exact klp_of (i + 1) rfl ⟨by omega, upto_succ h2 ht⟩ (by omega)
  · rw [fewB, setsOk, allN_f i (by omega) hf]; simp
  · have : i = xs.length := by omega
    subst this
    rw [fewB, setsOk, hn, e6, allN_t h2]; rfl
def lend_spec_l28Lists : List Nat := []
def sp_spec_l28Lists : List AV → List Bx → (AV → List Bx → Prop) → Prop
  | [.int .i64 n, .sl none (.ints .i64 xs)], [], K => K (.bool (fewB n xs)) []
  | _, _, _ => False
theorem at_spec_l28Lists {n : Int} {xs : List Int} {K : AV → List Bx → Prop} : sp_spec_l28Lists [.int .i64 n, .sl none (.ints .i64 xs)] [] K = (K (.bool (fewB n xs)) []) := id rfl
theorem ok_spec_l28Lists : ∀ args giv K, sp_spec_l28Lists args giv K → ∃ r outs, ARuns Try.prog 48 args giv r outs ∧ K r outs := by
  intro args giv K hk
  unfold sp_spec_l28Lists at hk
  split at hk
  · exact ⟨_, _, runs_spec_l28Lists _ _ , hk⟩
  · exact hk.elim
theorem is_spec_l2Size : FnIs Try.prog 58 15 [.tmp 2] (Try.f58.body.getD .skip) := ⟨⟨Try.f58, by kernel_rfl, by kernel_rfl, by kernel_rfl, by kernel_rfl⟩, by kernel_rfl, by kernel_rfl⟩
def G_spec_l2Size : Gm := Gm.none
theorem G_spec_l2Size_ok : G_spec_l2Size.ok Try.prog := Gm.none_ok
set_option maxHeartbeats 1000000 in
set_option maxRecDepth 100000 in
theorem runs_spec_l2Size (s : Int) (hp1 : 0 ≤ s ∧ s < 2 ^ 63) : ARuns Try.prog 58 [.int .i64 s] [] (.int .i64 (popI s)) [] := by
  refine ARuns_bc G_spec_l2Size_ok is_spec_l2Size (by simp) fun hl hlB => ?_
  simp only [kcode_at, kreg_at, bc_skip, bc_seq, bc_cond, bc_block, bc_exit, bc_ret, bc_region, lkX_cons, acond_tmp, aCase_t, aCase_f, aCase_b, afin_nil, cvE_some, resL, resV, resC, cv, cvL, pack, entryE, inPrm, Option.getD_some, acall_clo, add_sp, add_lend, kcall_nil, selOf, selA, inArgs, inA, inL, okA, okL, okBx, okC, outA, outL, outU, outB, deep, deepL, boxIds, AV.bid, List.map_nil, List.map_cons, List.all_nil, List.all_cons, BEq.rfl, Bool.and_true, Bool.true_and, List.append_nil, aops_nil, aops_plain, aops_guard, kont_at, yes_at, no_at, aop_move, aop_assign, aop_pick, aop_alloc, aop_box, aop_build, aop_buildSlice, aop_load, aop_store, aop_nilCheck, aop_binOp, aop_unOp, aop_convert, aop_fieldAddr, aop_indexAddr, aop_slice, aop_extract, aop_makeSlice, aop_len, aop_max, aMax_int, slTy2, SC0, aop_append, aop_call, evalE, getE, putE, getB, setB, St.put, setsB, nth, AV.ofV, AV.blk, AV.bid, AV.one, SC.len, SC.get, List.length_nil, List.length_cons, Nat.reduceEqDiff, Nat.reduceAdd, ↓reduceIte, true_and, and_true, Bool.true_eq_false, Bool.false_eq_true, false_imp_iff, true_imp_iff, decide_eq_true_eq, Bool.not_eq_true', Bool.not_eq_false', decide_eq_false_iff_not, Option.isSome, List.nil_append, List.cons_append, aGuardO_some, aGuard_tt, aGuard_tf, aGuard_ft, aGuard_ff, aGuard_tb, aGuard_fb, aGuard_ts, aGuard_fs, aPick_b, aPick_t, aPick_f, aAlloc_one, aAlloc_flat, aBox_some, aBuild_flat, aInt_add, aBin_add, aInt_sub, aBin_sub, aInt_mul, aBin_mul, aInt_quo, aBin_quo, aInt_rem, aBin_rem, aInt_and, aBin_and, aInt_or, aBin_or, aInt_xor, aBin_xor, aInt_andNot, aBin_andNot, aInt_eql, aBin_eql, aInt_neq, aBin_neq, aInt_lss, aBin_lss, aInt_leq, aBin_leq, aInt_gtr, aBin_gtr, aInt_geq, aBin_geq, aBin_shl, aBin_shr, aShift_shl, aShift_shr, aBin_be1, aBin_bn1, aBin_be2, aBin_bn2, aBin_be3, aBin_bn3, aBin_be4, aBin_bn4, aBin_be5, aBin_bn5, aBin_be6, aBin_bn6, aBin_be7, aBin_bn7, aBin_be8, aBin_bn8, aBin_be9, aBin_bn9, aUn_b, aUn_t, aUn_f, aUn_i, aNil_ptr, aNil_pv, aConv_int, aField_ptr, aField_pv, aIdx_sl, aIdx_prm, aIdx_row, aIdx_drow, aMake_i, aMake_s, aExtr_tup, aLen_ref, aLen_nil, aLen_sl, aLen_prm, aLen_str, aBuildL_some, aBuildS_some, aLoad_1b, aLoad_1d, aLoad_fb, aLoad_fd, aLoad_1p, aLoad_fp, aLoad_ep, aLoad_rr, aLoad_rd, aStore_1, aStore_f, aStore_r, aApp_some, aAppend_nil, aAppend_ref, aSlice_h, aSlice_l, aSlice_lh, bc_draw, kregD_at, aopsD_nil, aopsD_plain, aopsD_guard, kontD_at, contD_at, yesD_at, noD_at, splD_bool, splD_undef, splD_skip, splD_int, splD_tt, splD_ff, splD_str, splD_nil, splD_sl, splD_prm, splD_ref, splD_ptr, splD_rp, splD_ep, splD_pv, splD_agg, splD_tup, splD_clo, gD_tt, gD_tf, gD_ft, gD_ff, gD_ts, gD_fs, slotO_some, addTr_nil, addTr_cons, memQ_nil, memQ_cons, clash_nil, clash_cons, regC_none, regC_nil, regC_cons, regR_nil, regR_cons, Int.toNat_zero, Int.toNat_one, rng0, rng1, rng2, rng3, rng4, SC.take, SC.drop, mp_nil, acond_ct, acond_cf, mp_one0, mp_one1, mp_one2, mp_one3, kcall_one, liveB_row, liveB_box, idx, cont, still, dies, lend, lendA, lendDies, snocs, SC.snoc, SC.app, meet, AV.cells, fillA, List.getD_cons_zero, List.getD_cons_succ, List.set_cons_zero, List.set_cons_succ, List.length_singleton, Nat.le_refl, Nat.lt_irrefl, Nat.reduceLT, Nat.reduceLeDiff, Option.map_some, Option.map_none, List.flatMap_nil, List.flatMap_cons, Nat.zero_add, BEq.rfl, sl3, ty3, un3, sl56, ty56, un56, sl85, ty85, un85, sl83, ty83, un83, sl5, ty5, un5, sl2, ty2, un2, sl21, ty21, un21, sl4, ty4, un4, sl9, un9, sl22, ty22, un22, ty39, sl39, ty33, sl33, inR64, inRu64, inRu32, Try.f58]
  refine bc_loop (fun p : Nat × Nat => p.1 ≤ s.toNat ∧ p.2 + pop p.1 = pop s.toNat)
    (fun p => ⟨[(3, .int .i64 p.2), (4, .int .i64 p.1)], []⟩) (fun p => p.1)
    [3, 4] [] (s.toNat, 0) rfl (by simp [St.conv, getE, cv]; omega) (by simp) fun ⟨x, n⟩ ⟨h1, h2⟩ => ?_
  simp only [kcode_at, kreg_at, bc_skip, bc_seq, bc_cond, bc_block, bc_exit, bc_ret, bc_region, lkX_cons, acond_tmp, aCase_t, aCase_f, aCase_b, afin_nil, cvE_some, resL, resV, resC, cv, cvL, pack, entryE, inPrm, Option.getD_some, acall_clo, add_sp, add_lend, kcall_nil, selOf, selA, inArgs, inA, inL, okA, okL, okBx, okC, outA, outL, outU, outB, deep, deepL, boxIds, AV.bid, List.map_nil, List.map_cons, List.all_nil, List.all_cons, BEq.rfl, Bool.and_true, Bool.true_and, List.append_nil, aops_nil, aops_plain, aops_guard, kont_at, yes_at, no_at, aop_move, aop_assign, aop_pick, aop_alloc, aop_box, aop_build, aop_buildSlice, aop_load, aop_store, aop_nilCheck, aop_binOp, aop_unOp, aop_convert, aop_fieldAddr, aop_indexAddr, aop_slice, aop_extract, aop_makeSlice, aop_len, aop_max, aMax_int, slTy2, SC0, aop_append, aop_call, evalE, getE, putE, getB, setB, St.put, setsB, nth, AV.ofV, AV.blk, AV.bid, AV.one, SC.len, SC.get, List.length_nil, List.length_cons, Nat.reduceEqDiff, Nat.reduceAdd, ↓reduceIte, true_and, and_true, Bool.true_eq_false, Bool.false_eq_true, false_imp_iff, true_imp_iff, decide_eq_true_eq, Bool.not_eq_true', Bool.not_eq_false', decide_eq_false_iff_not, Option.isSome, List.nil_append, List.cons_append, aGuardO_some, aGuard_tt, aGuard_tf, aGuard_ft, aGuard_ff, aGuard_tb, aGuard_fb, aGuard_ts, aGuard_fs, aPick_b, aPick_t, aPick_f, aAlloc_one, aAlloc_flat, aBox_some, aBuild_flat, aInt_add, aBin_add, aInt_sub, aBin_sub, aInt_mul, aBin_mul, aInt_quo, aBin_quo, aInt_rem, aBin_rem, aInt_and, aBin_and, aInt_or, aBin_or, aInt_xor, aBin_xor, aInt_andNot, aBin_andNot, aInt_eql, aBin_eql, aInt_neq, aBin_neq, aInt_lss, aBin_lss, aInt_leq, aBin_leq, aInt_gtr, aBin_gtr, aInt_geq, aBin_geq, aBin_shl, aBin_shr, aShift_shl, aShift_shr, aBin_be1, aBin_bn1, aBin_be2, aBin_bn2, aBin_be3, aBin_bn3, aBin_be4, aBin_bn4, aBin_be5, aBin_bn5, aBin_be6, aBin_bn6, aBin_be7, aBin_bn7, aBin_be8, aBin_bn8, aBin_be9, aBin_bn9, aUn_b, aUn_t, aUn_f, aUn_i, aNil_ptr, aNil_pv, aConv_int, aField_ptr, aField_pv, aIdx_sl, aIdx_prm, aIdx_row, aIdx_drow, aMake_i, aMake_s, aExtr_tup, aLen_ref, aLen_nil, aLen_sl, aLen_prm, aLen_str, aBuildL_some, aBuildS_some, aLoad_1b, aLoad_1d, aLoad_fb, aLoad_fd, aLoad_1p, aLoad_fp, aLoad_ep, aLoad_rr, aLoad_rd, aStore_1, aStore_f, aStore_r, aApp_some, aAppend_nil, aAppend_ref, aSlice_h, aSlice_l, aSlice_lh, bc_draw, kregD_at, aopsD_nil, aopsD_plain, aopsD_guard, kontD_at, contD_at, yesD_at, noD_at, splD_bool, splD_undef, splD_skip, splD_int, splD_tt, splD_ff, splD_str, splD_nil, splD_sl, splD_prm, splD_ref, splD_ptr, splD_rp, splD_ep, splD_pv, splD_agg, splD_tup, splD_clo, gD_tt, gD_tf, gD_ft, gD_ff, gD_ts, gD_fs, slotO_some, addTr_nil, addTr_cons, memQ_nil, memQ_cons, clash_nil, clash_cons, regC_none, regC_nil, regC_cons, regR_nil, regR_cons, Int.toNat_zero, Int.toNat_one, rng0, rng1, rng2, rng3, rng4, SC.take, SC.drop, mp_nil, acond_ct, acond_cf, mp_one0, mp_one1, mp_one2, mp_one3, kcall_one, liveB_row, liveB_box, idx, cont, still, dies, lend, lendA, lendDies, snocs, SC.snoc, SC.app, meet, AV.cells, fillA, List.getD_cons_zero, List.getD_cons_succ, List.set_cons_zero, List.set_cons_succ, List.length_singleton, Nat.le_refl, Nat.lt_irrefl, Nat.reduceLT, Nat.reduceLeDiff, Option.map_some, Option.map_none, List.flatMap_nil, List.flatMap_cons, Nat.zero_add, BEq.rfl, sl3, ty3, un3, sl56, ty56, un56, sl85, ty85, un85, sl83, ty83, un83, sl5, ty5, un5, sl2, ty2, un2, sl21, ty21, un21, sl4, ty4, un4, sl9, un9, sl22, ty22, un22, ty39, sl39, ty33, sl33, inR64, inRu64, inRu32]
  simp only at h1 h2
  have hx : x < 2 ^ 64 := by omega
  have b1 := band_one (x := (x : Int)) (by omega)
  have hp := pop_step hx
  have hl := @pop_le s.toNat
  rw [b1]
  refine ⟨fun h => ⟨by omega, ⟨by omega, by simp [IntKind.bits]⟩, ?_⟩, fun h => ?_⟩
  · refine klp_of (x / 2, n + x % 2) ?_ ⟨?_, ?_⟩ ?_
    · simp [St.conv, getE, cv]
    · simp only; omega
    · simp only; omega
    · simp only; omega
  · have : x = 0 := by omega
    subst this
    rw [pop_zero] at h2
    unfold popI; rw [← h2]; rfl
def lend_spec_l2Size : List Nat := []
def sp_spec_l2Size : List AV → List Bx → (AV → List Bx → Prop) → Prop
  | [.int .i64 s], [], K => (0 ≤ s ∧ s < 2 ^ 63) ∧ K (.int .i64 (popI s)) []
  | _, _, _ => False
theorem at_spec_l2Size {s : Int} {K : AV → List Bx → Prop} : sp_spec_l2Size [.int .i64 s] [] K = ((0 ≤ s ∧ s < 2 ^ 63) ∧ K (.int .i64 (popI s)) []) := id rfl
theorem ok_spec_l2Size : ∀ args giv K, sp_spec_l2Size args giv K → ∃ r outs, ARuns Try.prog 58 args giv r outs ∧ K r outs := by
  intro args giv K hk
  unfold sp_spec_l2Size at hk
  split at hk
  · obtain ⟨hp1, hk⟩ := hk; exact ⟨_, _, runs_spec_l2Size _ hp1, hk⟩
  · exact hk.elim
theorem is_spec_l28Union : FnIs Try.prog 72 25 [.tmp 4] (Try.f72.body.getD .skip) := ⟨⟨Try.f72, by kernel_rfl, by kernel_rfl, by kernel_rfl, by kernel_rfl⟩, by kernel_rfl, by kernel_rfl⟩
def G_spec_l28Union : Gm := Gm.none
theorem G_spec_l28Union_ok : G_spec_l28Union.ok Try.prog := Gm.none_ok
set_option maxHeartbeats 1000000 in
set_option maxRecDepth 100000 in
theorem runs_spec_l28Union (l : List Int) (code : Int) (hp1 : l.length ≤ 6) : ARuns Try.prog 72 [.sl none (.ints .i64 l), .int .i64 code] [] (.int .i64 (unionF l code l.length)) [] := by
  refine ARuns_bc G_spec_l28Union_ok is_spec_l28Union (by simp) fun hl hlB => ?_
  simp only [kcode_at, kreg_at, bc_skip, bc_seq, bc_cond, bc_block, bc_exit, bc_ret, bc_region, lkX_cons, acond_tmp, aCase_t, aCase_f, aCase_b, afin_nil, cvE_some, resL, resV, resC, cv, cvL, pack, entryE, inPrm, Option.getD_some, acall_clo, add_sp, add_lend, kcall_nil, selOf, selA, inArgs, inA, inL, okA, okL, okBx, okC, outA, outL, outU, outB, deep, deepL, boxIds, AV.bid, List.map_nil, List.map_cons, List.all_nil, List.all_cons, BEq.rfl, Bool.and_true, Bool.true_and, List.append_nil, aops_nil, aops_plain, aops_guard, kont_at, yes_at, no_at, aop_move, aop_assign, aop_pick, aop_alloc, aop_box, aop_build, aop_buildSlice, aop_load, aop_store, aop_nilCheck, aop_binOp, aop_unOp, aop_convert, aop_fieldAddr, aop_indexAddr, aop_slice, aop_extract, aop_makeSlice, aop_len, aop_max, aMax_int, slTy2, SC0, aop_append, aop_call, evalE, getE, putE, getB, setB, St.put, setsB, nth, AV.ofV, AV.blk, AV.bid, AV.one, SC.len, SC.get, List.length_nil, List.length_cons, Nat.reduceEqDiff, Nat.reduceAdd, ↓reduceIte, true_and, and_true, Bool.true_eq_false, Bool.false_eq_true, false_imp_iff, true_imp_iff, decide_eq_true_eq, Bool.not_eq_true', Bool.not_eq_false', decide_eq_false_iff_not, Option.isSome, List.nil_append, List.cons_append, aGuardO_some, aGuard_tt, aGuard_tf, aGuard_ft, aGuard_ff, aGuard_tb, aGuard_fb, aGuard_ts, aGuard_fs, aPick_b, aPick_t, aPick_f, aAlloc_one, aAlloc_flat, aBox_some, aBuild_flat, aInt_add, aBin_add, aInt_sub, aBin_sub, aInt_mul, aBin_mul, aInt_quo, aBin_quo, aInt_rem, aBin_rem, aInt_and, aBin_and, aInt_or, aBin_or, aInt_xor, aBin_xor, aInt_andNot, aBin_andNot, aInt_eql, aBin_eql, aInt_neq, aBin_neq, aInt_lss, aBin_lss, aInt_leq, aBin_leq, aInt_gtr, aBin_gtr, aInt_geq, aBin_geq, aBin_shl, aBin_shr, aShift_shl, aShift_shr, aBin_be1, aBin_bn1, aBin_be2, aBin_bn2, aBin_be3, aBin_bn3, aBin_be4, aBin_bn4, aBin_be5, aBin_bn5, aBin_be6, aBin_bn6, aBin_be7, aBin_bn7, aBin_be8, aBin_bn8, aBin_be9, aBin_bn9, aUn_b, aUn_t, aUn_f, aUn_i, aNil_ptr, aNil_pv, aConv_int, aField_ptr, aField_pv, aIdx_sl, aIdx_prm, aIdx_row, aIdx_drow, aMake_i, aMake_s, aExtr_tup, aLen_ref, aLen_nil, aLen_sl, aLen_prm, aLen_str, aBuildL_some, aBuildS_some, aLoad_1b, aLoad_1d, aLoad_fb, aLoad_fd, aLoad_1p, aLoad_fp, aLoad_ep, aLoad_rr, aLoad_rd, aStore_1, aStore_f, aStore_r, aApp_some, aAppend_nil, aAppend_ref, aSlice_h, aSlice_l, aSlice_lh, bc_draw, kregD_at, aopsD_nil, aopsD_plain, aopsD_guard, kontD_at, contD_at, yesD_at, noD_at, splD_bool, splD_undef, splD_skip, splD_int, splD_tt, splD_ff, splD_str, splD_nil, splD_sl, splD_prm, splD_ref, splD_ptr, splD_rp, splD_ep, splD_pv, splD_agg, splD_tup, splD_clo, gD_tt, gD_tf, gD_ft, gD_ff, gD_ts, gD_fs, slotO_some, addTr_nil, addTr_cons, memQ_nil, memQ_cons, clash_nil, clash_cons, regC_none, regC_nil, regC_cons, regR_nil, regR_cons, Int.toNat_zero, Int.toNat_one, rng0, rng1, rng2, rng3, rng4, SC.take, SC.drop, mp_nil, acond_ct, acond_cf, mp_one0, mp_one1, mp_one2, mp_one3, kcall_one, liveB_row, liveB_box, idx, cont, still, dies, lend, lendA, lendDies, snocs, SC.snoc, SC.app, meet, AV.cells, fillA, List.getD_cons_zero, List.getD_cons_succ, List.set_cons_zero, List.set_cons_succ, List.length_singleton, Nat.le_refl, Nat.lt_irrefl, Nat.reduceLT, Nat.reduceLeDiff, Option.map_some, Option.map_none, List.flatMap_nil, List.flatMap_cons, Nat.zero_add, BEq.rfl, sl3, ty3, un3, sl56, ty56, un56, sl85, ty85, un85, sl83, ty83, un83, sl5, ty5, un5, sl2, ty2, un2, sl21, ty21, un21, sl4, ty4, un4, sl9, un9, sl22, ty22, un22, ty39, sl39, ty33, sl33, inR64, inRu64, inRu32, Try.f72]
  refine bc_loop (fun i : Nat => i ≤ l.length)
    (fun i => ⟨[(0, .prm 0 (.ints .i64 l)), (1, .int .i64 code), (5, .int .i64 (unionF l code i)), (6, .int .i64 i)], []⟩) (fun i => l.length - i)
    [0, 1, 5, 6] [] 0 rfl (by simp [St.conv, St.bf, getE, putE, getB, cv, cvL, cvB, idx, still, pack, lifts, liftOne, cellsOfB, setB]; rfl) (by simp) fun i h1 => ?_
  simp only [kcode_at, kreg_at, bc_skip, bc_seq, bc_cond, bc_block, bc_exit, bc_ret, bc_region, lkX_cons, acond_tmp, aCase_t, aCase_f, aCase_b, afin_nil, cvE_some, resL, resV, resC, cv, cvL, pack, entryE, inPrm, Option.getD_some, acall_clo, add_sp, add_lend, kcall_nil, selOf, selA, inArgs, inA, inL, okA, okL, okBx, okC, outA, outL, outU, outB, deep, deepL, boxIds, AV.bid, List.map_nil, List.map_cons, List.all_nil, List.all_cons, BEq.rfl, Bool.and_true, Bool.true_and, List.append_nil, aops_nil, aops_plain, aops_guard, kont_at, yes_at, no_at, aop_move, aop_assign, aop_pick, aop_alloc, aop_box, aop_build, aop_buildSlice, aop_load, aop_store, aop_nilCheck, aop_binOp, aop_unOp, aop_convert, aop_fieldAddr, aop_indexAddr, aop_slice, aop_extract, aop_makeSlice, aop_len, aop_max, aMax_int, slTy2, SC0, aop_append, aop_call, evalE, getE, putE, getB, setB, St.put, setsB, nth, AV.ofV, AV.blk, AV.bid, AV.one, SC.len, SC.get, List.length_nil, List.length_cons, Nat.reduceEqDiff, Nat.reduceAdd, ↓reduceIte, true_and, and_true, Bool.true_eq_false, Bool.false_eq_true, false_imp_iff, true_imp_iff, decide_eq_true_eq, Bool.not_eq_true', Bool.not_eq_false', decide_eq_false_iff_not, Option.isSome, List.nil_append, List.cons_append, aGuardO_some, aGuard_tt, aGuard_tf, aGuard_ft, aGuard_ff, aGuard_tb, aGuard_fb, aGuard_ts, aGuard_fs, aPick_b, aPick_t, aPick_f, aAlloc_one, aAlloc_flat, aBox_some, aBuild_flat, aInt_add, aBin_add, aInt_sub, aBin_sub, aInt_mul, aBin_mul, aInt_quo, aBin_quo, aInt_rem, aBin_rem, aInt_and, aBin_and, aInt_or, aBin_or, aInt_xor, aBin_xor, aInt_andNot, aBin_andNot, aInt_eql, aBin_eql, aInt_neq, aBin_neq, aInt_lss, aBin_lss, aInt_leq, aBin_leq, aInt_gtr, aBin_gtr, aInt_geq, aBin_geq, aBin_shl, aBin_shr, aShift_shl, aShift_shr, aBin_be1, aBin_bn1, aBin_be2, aBin_bn2, aBin_be3, aBin_bn3, aBin_be4, aBin_bn4, aBin_be5, aBin_bn5, aBin_be6, aBin_bn6, aBin_be7, aBin_bn7, aBin_be8, aBin_bn8, aBin_be9, aBin_bn9, aUn_b, aUn_t, aUn_f, aUn_i, aNil_ptr, aNil_pv, aConv_int, aField_ptr, aField_pv, aIdx_sl, aIdx_prm, aIdx_row, aIdx_drow, aMake_i, aMake_s, aExtr_tup, aLen_ref, aLen_nil, aLen_sl, aLen_prm, aLen_str, aBuildL_some, aBuildS_some, aLoad_1b, aLoad_1d, aLoad_fb, aLoad_fd, aLoad_1p, aLoad_fp, aLoad_ep, aLoad_rr, aLoad_rd, aStore_1, aStore_f, aStore_r, aApp_some, aAppend_nil, aAppend_ref, aSlice_h, aSlice_l, aSlice_lh, bc_draw, kregD_at, aopsD_nil, aopsD_plain, aopsD_guard, kontD_at, contD_at, yesD_at, noD_at, splD_bool, splD_undef, splD_skip, splD_int, splD_tt, splD_ff, splD_str, splD_nil, splD_sl, splD_prm, splD_ref, splD_ptr, splD_rp, splD_ep, splD_pv, splD_agg, splD_tup, splD_clo, gD_tt, gD_tf, gD_ft, gD_ff, gD_ts, gD_fs, slotO_some, addTr_nil, addTr_cons, memQ_nil, memQ_cons, clash_nil, clash_cons, regC_none, regC_nil, regC_cons, regR_nil, regR_cons, Int.toNat_zero, Int.toNat_one, rng0, rng1, rng2, rng3, rng4, SC.take, SC.drop, mp_nil, acond_ct, acond_cf, mp_one0, mp_one1, mp_one2, mp_one3, kcall_one, liveB_row, liveB_box, idx, cont, still, dies, lend, lendA, lendDies, snocs, SC.snoc, SC.app, meet, AV.cells, fillA, List.getD_cons_zero, List.getD_cons_succ, List.set_cons_zero, List.set_cons_succ, List.length_singleton, Nat.le_refl, Nat.lt_irrefl, Nat.reduceLT, Nat.reduceLeDiff, Option.map_some, Option.map_none, List.flatMap_nil, List.flatMap_cons, Nat.zero_add, BEq.rfl, sl3, ty3, un3, sl56, ty56, un56, sl85, ty85, un85, sl83, ty83, un83, sl5, ty5, un5, sl2, ty2, un2, sl21, ty21, un21, sl4, ty4, un4, sl9, un9, sl22, ty22, un22, ty39, sl39, ty33, sl33, inR64, inRu64, inRu32, Int.toNat_natCast]
  simp only [IntKind.bits]
  refine ⟨fun hi => ⟨by omega, fun hb => ⟨by omega, by omega, ?_⟩, fun hb => ⟨by omega, ?_⟩⟩, fun hi => ?_⟩
  · exact klp_of (i + 1) (by rw [unionF, if_pos hb]; simp [St.conv, St.bf, getE, putE, getB, cv, cvL, cvB, idx, still, pack, lifts, liftOne, cellsOfB, setB]) (by omega) (by omega)
  · exact klp_of (i + 1) (by rw [unionF, if_neg hb]; simp [St.conv, St.bf, getE, putE, getB, cv, cvL, cvB, idx, still, pack, lifts, liftOne, cellsOfB, setB]) (by omega) (by omega)
  · have : i = l.length := by omega
    rw [this]
def lend_spec_l28Union : List Nat := []
def sp_spec_l28Union : List AV → List Bx → (AV → List Bx → Prop) → Prop
  | [.sl none (.ints .i64 l), .int .i64 code], [], K => (l.length ≤ 6) ∧ K (.int .i64 (unionF l code l.length)) []
  | _, _, _ => False
theorem at_spec_l28Union {l : List Int} {code : Int} {K : AV → List Bx → Prop} : sp_spec_l28Union [.sl none (.ints .i64 l), .int .i64 code] [] K = ((l.length ≤ 6) ∧ K (.int .i64 (unionF l code l.length)) []) := id rfl
theorem ok_spec_l28Union : ∀ args giv K, sp_spec_l28Union args giv K → ∃ r outs, ARuns Try.prog 72 args giv r outs ∧ K r outs := by
  intro args giv K hk
  unfold sp_spec_l28Union at hk
  split at hk
  · obtain ⟨hp1, hk⟩ := hk; exact ⟨_, _, runs_spec_l28Union _ _ hp1, hk⟩
  · exact hk.elim
theorem is_spec_l2List : FnIs Try.prog 73 22 [.tmp 2] (Try.f73.body.getD .skip) := ⟨⟨Try.f73, by kernel_rfl, by kernel_rfl, by kernel_rfl, by kernel_rfl⟩, by kernel_rfl, by kernel_rfl⟩
def G_spec_l2List : Gm := Gm.none
theorem G_spec_l2List_ok : G_spec_l2List.ok Try.prog := Gm.none_ok
set_option maxHeartbeats 1000000 in
set_option maxRecDepth 100000 in
theorem runs_spec_l2List (s : Int) (hp1 : 0 ≤ s ∧ s < 2 ^ 62) : ARuns Try.prog 73 [.int .i64 s] [] (.ref 0 (elemsL s).length) [.row 3 (.ints .i64 (elemsL s))] := by
  refine ARuns_bc G_spec_l2List_ok is_spec_l2List (by simp) fun hl hlB => ?_
  simp only [kcode_at, kreg_at, bc_skip, bc_seq, bc_cond, bc_block, bc_exit, bc_ret, bc_region, lkX_cons, acond_tmp, aCase_t, aCase_f, aCase_b, afin_nil, cvE_some, resL, resV, resC, cv, cvL, pack, entryE, inPrm, Option.getD_some, acall_clo, add_sp, add_lend, kcall_nil, selOf, selA, inArgs, inA, inL, okA, okL, okBx, okC, outA, outL, outU, outB, deep, deepL, boxIds, AV.bid, List.map_nil, List.map_cons, List.all_nil, List.all_cons, BEq.rfl, Bool.and_true, Bool.true_and, List.append_nil, aops_nil, aops_plain, aops_guard, kont_at, yes_at, no_at, aop_move, aop_assign, aop_pick, aop_alloc, aop_box, aop_build, aop_buildSlice, aop_load, aop_store, aop_nilCheck, aop_binOp, aop_unOp, aop_convert, aop_fieldAddr, aop_indexAddr, aop_slice, aop_extract, aop_makeSlice, aop_len, aop_max, aMax_int, slTy2, SC0, aop_append, aop_call, evalE, getE, putE, getB, setB, St.put, setsB, nth, AV.ofV, AV.blk, AV.bid, AV.one, SC.len, SC.get, List.length_nil, List.length_cons, Nat.reduceEqDiff, Nat.reduceAdd, ↓reduceIte, true_and, and_true, Bool.true_eq_false, Bool.false_eq_true, false_imp_iff, true_imp_iff, decide_eq_true_eq, Bool.not_eq_true', Bool.not_eq_false', decide_eq_false_iff_not, Option.isSome, List.nil_append, List.cons_append, aGuardO_some, aGuard_tt, aGuard_tf, aGuard_ft, aGuard_ff, aGuard_tb, aGuard_fb, aGuard_ts, aGuard_fs, aPick_b, aPick_t, aPick_f, aAlloc_one, aAlloc_flat, aBox_some, aBuild_flat, aInt_add, aBin_add, aInt_sub, aBin_sub, aInt_mul, aBin_mul, aInt_quo, aBin_quo, aInt_rem, aBin_rem, aInt_and, aBin_and, aInt_or, aBin_or, aInt_xor, aBin_xor, aInt_andNot, aBin_andNot, aInt_eql, aBin_eql, aInt_neq, aBin_neq, aInt_lss, aBin_lss, aInt_leq, aBin_leq, aInt_gtr, aBin_gtr, aInt_geq, aBin_geq, aBin_shl, aBin_shr, aShift_shl, aShift_shr, aBin_be1, aBin_bn1, aBin_be2, aBin_bn2, aBin_be3, aBin_bn3, aBin_be4, aBin_bn4, aBin_be5, aBin_bn5, aBin_be6, aBin_bn6, aBin_be7, aBin_bn7, aBin_be8, aBin_bn8, aBin_be9, aBin_bn9, aUn_b, aUn_t, aUn_f, aUn_i, aNil_ptr, aNil_pv, aConv_int, aField_ptr, aField_pv, aIdx_sl, aIdx_prm, aIdx_row, aIdx_drow, aMake_i, aMake_s, aExtr_tup, aLen_ref, aLen_nil, aLen_sl, aLen_prm, aLen_str, aBuildL_some, aBuildS_some, aLoad_1b, aLoad_1d, aLoad_fb, aLoad_fd, aLoad_1p, aLoad_fp, aLoad_ep, aLoad_rr, aLoad_rd, aStore_1, aStore_f, aStore_r, aApp_some, aAppend_nil, aAppend_ref, aSlice_h, aSlice_l, aSlice_lh, bc_draw, kregD_at, aopsD_nil, aopsD_plain, aopsD_guard, kontD_at, contD_at, yesD_at, noD_at, splD_bool, splD_undef, splD_skip, splD_int, splD_tt, splD_ff, splD_str, splD_nil, splD_sl, splD_prm, splD_ref, splD_ptr, splD_rp, splD_ep, splD_pv, splD_agg, splD_tup, splD_clo, gD_tt, gD_tf, gD_ft, gD_ff, gD_ts, gD_fs, slotO_some, addTr_nil, addTr_cons, memQ_nil, memQ_cons, clash_nil, clash_cons, regC_none, regC_nil, regC_cons, regR_nil, regR_cons, Int.toNat_zero, Int.toNat_one, rng0, rng1, rng2, rng3, rng4, SC.take, SC.drop, mp_nil, acond_ct, acond_cf, mp_one0, mp_one1, mp_one2, mp_one3, kcall_one, liveB_row, liveB_box, idx, cont, still, dies, lend, lendA, lendDies, snocs, SC.snoc, SC.app, meet, AV.cells, fillA, List.getD_cons_zero, List.getD_cons_succ, List.set_cons_zero, List.set_cons_succ, List.length_singleton, Nat.le_refl, Nat.lt_irrefl, Nat.reduceLT, Nat.reduceLeDiff, Option.map_some, Option.map_none, List.flatMap_nil, List.flatMap_cons, Nat.zero_add, BEq.rfl, sl3, ty3, un3, sl56, ty56, un56, sl85, ty85, un85, sl83, ty83, un83, sl5, ty5, un5, sl2, ty2, un2, sl21, ty21, un21, sl4, ty4, un4, sl9, un9, sl22, ty22, un22, ty39, sl39, ty33, sl33, inR64, inRu64, inRu32, Try.f73]
  obtain ⟨S, rfl⟩ := Int.eq_ofNat_of_zero_le hp1.1
  refine bc_loop (fun i : Nat => i ≤ 62)
    (fun i => ⟨[(3, .ref 0 (elemsF S i).length), (4, .int .i64 i), (5, .int .i64 ((S / 2 ^ i : Nat) : Int))], [.row 3 (.ints .i64 (elemsF S i))]⟩) (fun i => S / 2 ^ i)
    [3, 4, 5] [0] 0 rfl (by simp [elemsF, St.conv, St.bf, getE, putE, getB, cv, cvL, cvB, idx, still]) (by omega) fun i h1 => ?_
  simp only [kcode_at, kreg_at, bc_skip, bc_seq, bc_cond, bc_block, bc_exit, bc_ret, bc_region, lkX_cons, acond_tmp, aCase_t, aCase_f, aCase_b, afin_nil, cvE_some, resL, resV, resC, cv, cvL, pack, entryE, inPrm, Option.getD_some, acall_clo, add_sp, add_lend, kcall_nil, selOf, selA, inArgs, inA, inL, okA, okL, okBx, okC, outA, outL, outU, outB, deep, deepL, boxIds, AV.bid, List.map_nil, List.map_cons, List.all_nil, List.all_cons, BEq.rfl, Bool.and_true, Bool.true_and, List.append_nil, aops_nil, aops_plain, aops_guard, kont_at, yes_at, no_at, aop_move, aop_assign, aop_pick, aop_alloc, aop_box, aop_build, aop_buildSlice, aop_load, aop_store, aop_nilCheck, aop_binOp, aop_unOp, aop_convert, aop_fieldAddr, aop_indexAddr, aop_slice, aop_extract, aop_makeSlice, aop_len, aop_max, aMax_int, slTy2, SC0, aop_append, aop_call, evalE, getE, putE, getB, setB, St.put, setsB, nth, AV.ofV, AV.blk, AV.bid, AV.one, SC.len, SC.get, List.length_nil, List.length_cons, Nat.reduceEqDiff, Nat.reduceAdd, ↓reduceIte, true_and, and_true, Bool.true_eq_false, Bool.false_eq_true, false_imp_iff, true_imp_iff, decide_eq_true_eq, Bool.not_eq_true', Bool.not_eq_false', decide_eq_false_iff_not, Option.isSome, List.nil_append, List.cons_append, aGuardO_some, aGuard_tt, aGuard_tf, aGuard_ft, aGuard_ff, aGuard_tb, aGuard_fb, aGuard_ts, aGuard_fs, aPick_b, aPick_t, aPick_f, aAlloc_one, aAlloc_flat, aBox_some, aBuild_flat, aInt_add, aBin_add, aInt_sub, aBin_sub, aInt_mul, aBin_mul, aInt_quo, aBin_quo, aInt_rem, aBin_rem, aInt_and, aBin_and, aInt_or, aBin_or, aInt_xor, aBin_xor, aInt_andNot, aBin_andNot, aInt_eql, aBin_eql, aInt_neq, aBin_neq, aInt_lss, aBin_lss, aInt_leq, aBin_leq, aInt_gtr, aBin_gtr, aInt_geq, aBin_geq, aBin_shl, aBin_shr, aShift_shl, aShift_shr, aBin_be1, aBin_bn1, aBin_be2, aBin_bn2, aBin_be3, aBin_bn3, aBin_be4, aBin_bn4, aBin_be5, aBin_bn5, aBin_be6, aBin_bn6, aBin_be7, aBin_bn7, aBin_be8, aBin_bn8, aBin_be9, aBin_bn9, aUn_b, aUn_t, aUn_f, aUn_i, aNil_ptr, aNil_pv, aConv_int, aField_ptr, aField_pv, aIdx_sl, aIdx_prm, aIdx_row, aIdx_drow, aMake_i, aMake_s, aExtr_tup, aLen_ref, aLen_nil, aLen_sl, aLen_prm, aLen_str, aBuildL_some, aBuildS_some, aLoad_1b, aLoad_1d, aLoad_fb, aLoad_fd, aLoad_1p, aLoad_fp, aLoad_ep, aLoad_rr, aLoad_rd, aStore_1, aStore_f, aStore_r, aApp_some, aAppend_nil, aAppend_ref, aSlice_h, aSlice_l, aSlice_lh, bc_draw, kregD_at, aopsD_nil, aopsD_plain, aopsD_guard, kontD_at, contD_at, yesD_at, noD_at, splD_bool, splD_undef, splD_skip, splD_int, splD_tt, splD_ff, splD_str, splD_nil, splD_sl, splD_prm, splD_ref, splD_ptr, splD_rp, splD_ep, splD_pv, splD_agg, splD_tup, splD_clo, gD_tt, gD_tf, gD_ft, gD_ff, gD_ts, gD_fs, slotO_some, addTr_nil, addTr_cons, memQ_nil, memQ_cons, clash_nil, clash_cons, regC_none, regC_nil, regC_cons, regR_nil, regR_cons, Int.toNat_zero, Int.toNat_one, rng0, rng1, rng2, rng3, rng4, SC.take, SC.drop, mp_nil, acond_ct, acond_cf, mp_one0, mp_one1, mp_one2, mp_one3, kcall_one, liveB_row, liveB_box, idx, cont, still, dies, lend, lendA, lendDies, snocs, SC.snoc, SC.app, meet, AV.cells, fillA, List.getD_cons_zero, List.getD_cons_succ, List.set_cons_zero, List.set_cons_succ, List.length_singleton, Nat.le_refl, Nat.lt_irrefl, Nat.reduceLT, Nat.reduceLeDiff, Option.map_some, Option.map_none, List.flatMap_nil, List.flatMap_cons, Nat.zero_add, BEq.rfl, sl3, ty3, un3, sl56, ty56, un56, sl85, ty85, un85, sl83, ty83, un83, sl5, ty5, un5, sl2, ty2, un2, sl21, ty21, un21, sl4, ty4, un4, sl9, un9, sl22, ty22, un22, ty39, sl39, ty33, sl33, inR64, inRu64, inRu32, Int.toNat_natCast]
  have hq : S / 2 ^ i ≤ S := Nat.div_le_self _ _
  have hl2 := elemsF_len (s := S) (n := i)
  have hd := div_next (s := S) (i := i)
  have ht := elemsF_t (s := S) (n := i)
  have hf := elemsF_f (s := S) (n := i)
  have hlt := elems_lt (s := S) (i := i)
  have hat : S / 2 ^ i = 0 → elemsL S = elemsF S i := fun h => by
    have := elems_at (s := S) (i := i) h h1
    simpa using this
  generalize hqe : S / 2 ^ i = q at *
  have e6 : (q : Int) / 2 = (S : Int) / 2 ^ (i + 1) := by
    have := congrArg (fun n : Nat => (n : Int)) hd
    simpa using this.symm
  have hb : band .i64 (q : Int) 1 = (q : Int) % 2 := band_one (by omega)
  have e5 : (q : Int) / 2 ^ 1 = ((q / 2 : Nat) : Int) := by omega
  rw [hb, e5]
  simp only [IntKind.bits]
  refine ⟨fun h0 => ⟨fun h1 => ?_, fun h1 => ?_⟩, fun h0 => ?_⟩
  · have hi := hlt (by omega) (by omega)
    refine ⟨by omega, by omega, by omega, klp_of (i + 1) ?_ (by omega) (by simp only [hqe, hd]; omega)⟩
    rw [ht (by omega)]
    simp [St.conv, St.bf, getE, putE, getB, cv, cvL, cvB, idx, still, pack, lifts, liftOne, cellsOfB, setB]
    try omega
  · have hi := hlt (by omega) (by omega)
    refine ⟨by omega, by omega, klp_of (i + 1) ?_ (by omega) (by simp only [hqe, hd]; omega)⟩
    rw [hf (by omega)]
    simp [St.conv, St.bf, getE, putE, getB, cv, cvL, cvB, idx, still, pack, lifts, liftOne, cellsOfB, setB]
    try omega
  · rw [hat (by omega)]
    exact afin_of [0] rfl rfl (by simp [St.conv, St.bf, getE, putE, getB, cv, cvL, cvB, idx, still, pack, lifts, liftOne, cellsOfB, setB]) (by simp [St.conv, St.bf, getE, putE, getB, cv, cvL, cvB, idx, still, pack, lifts, liftOne, cellsOfB, setB])
def lend_spec_l2List : List Nat := []
def sp_spec_l2List : List AV → List Bx → (AV → List Bx → Prop) → Prop
  | [.int .i64 s], [], K => (0 ≤ s ∧ s < 2 ^ 62) ∧ K (.ref 0 (elemsL s).length) [.row 3 (.ints .i64 (elemsL s))]
  | _, _, _ => False
theorem at_spec_l2List {s : Int} {K : AV → List Bx → Prop} : sp_spec_l2List [.int .i64 s] [] K = ((0 ≤ s ∧ s < 2 ^ 62) ∧ K (.ref 0 (elemsL s).length) [.row 3 (.ints .i64 (elemsL s))]) := id rfl
theorem ok_spec_l2List : ∀ args giv K, sp_spec_l2List args giv K → ∃ r outs, ARuns Try.prog 73 args giv r outs ∧ K r outs := by
  intro args giv K hk
  unfold sp_spec_l2List at hk
  split at hk
  · obtain ⟨hp1, hk⟩ := hk; exact ⟨_, _, runs_spec_l2List _ hp1, hk⟩
  · exact hk.elim
theorem is_spec_HallViolator : FnIs Try.prog 36 29 [.tmp 4, .tmp 5] (Try.f36.body.getD .skip) := ⟨⟨Try.f36, by kernel_rfl, by kernel_rfl, by kernel_rfl, by kernel_rfl⟩, by kernel_rfl, by kernel_rfl⟩
def G_spec_HallViolator : Gm := ((((Gm.none.add 48 lend_spec_l28Lists sp_spec_l28Lists).add 58 lend_spec_l2Size sp_spec_l2Size).add 72 lend_spec_l28Union sp_spec_l28Union).add 73 lend_spec_l2List sp_spec_l2List)
theorem G_spec_HallViolator_ok : G_spec_HallViolator.ok Try.prog := (Gm.add_ok (Gm.add_ok (Gm.add_ok (Gm.add_ok Gm.none_ok ok_spec_l28Lists) ok_spec_l2Size) ok_spec_l28Union) ok_spec_l2List)
theorem gs_spec_HallViolator_48 : G_spec_HallViolator.sp 48 = sp_spec_l28Lists ∧ G_spec_HallViolator.lend 48 = lend_spec_l28Lists := ⟨rfl, rfl⟩
theorem gs_spec_HallViolator_58 : G_spec_HallViolator.sp 58 = sp_spec_l2Size ∧ G_spec_HallViolator.lend 58 = lend_spec_l2Size := ⟨rfl, rfl⟩
theorem gs_spec_HallViolator_72 : G_spec_HallViolator.sp 72 = sp_spec_l28Union ∧ G_spec_HallViolator.lend 72 = lend_spec_l28Union := ⟨rfl, rfl⟩
theorem gs_spec_HallViolator_73 : G_spec_HallViolator.sp 73 = sp_spec_l2List ∧ G_spec_HallViolator.lend 73 = lend_spec_l2List := ⟨rfl, rfl⟩
set_option maxHeartbeats 1000000 in
set_option maxRecDepth 100000 in
theorem runs_spec_HallViolator (n : Int) (l : List Int) : ARuns Try.prog 36 [.int .i64 n, .sl none (.ints .i64 l)] [] (.tup [.ref 0 (hallL n l).length, .bool (hallB n l)]) [.row 3 (.ints .i64 (hallL n l))] := by
  refine ARuns_bc G_spec_HallViolator_ok is_spec_HallViolator (by simp) fun hl hlB => ?_
  simp only [kcode_at, kreg_at, bc_skip, bc_seq, bc_cond, bc_block, bc_exit, bc_ret, bc_region, lkX_cons, acond_tmp, aCase_t, aCase_f, aCase_b, afin_nil, cvE_some, resL, resV, resC, cv, cvL, pack, entryE, inPrm, Option.getD_some, acall_clo, add_sp, add_lend, kcall_nil, selOf, selA, inArgs, inA, inL, okA, okL, okBx, okC, outA, outL, outU, outB, deep, deepL, boxIds, AV.bid, List.map_nil, List.map_cons, List.all_nil, List.all_cons, BEq.rfl, Bool.and_true, Bool.true_and, List.append_nil, aops_nil, aops_plain, aops_guard, kont_at, yes_at, no_at, aop_move, aop_assign, aop_pick, aop_alloc, aop_box, aop_build, aop_buildSlice, aop_load, aop_store, aop_nilCheck, aop_binOp, aop_unOp, aop_convert, aop_fieldAddr, aop_indexAddr, aop_slice, aop_extract, aop_makeSlice, aop_len, aop_max, aMax_int, slTy2, SC0, aop_append, aop_call, evalE, getE, putE, getB, setB, St.put, setsB, nth, AV.ofV, AV.blk, AV.bid, AV.one, SC.len, SC.get, List.length_nil, List.length_cons, Nat.reduceEqDiff, Nat.reduceAdd, ↓reduceIte, true_and, and_true, Bool.true_eq_false, Bool.false_eq_true, false_imp_iff, true_imp_iff, decide_eq_true_eq, Bool.not_eq_true', Bool.not_eq_false', decide_eq_false_iff_not, Option.isSome, List.nil_append, List.cons_append, aGuardO_some, aGuard_tt, aGuard_tf, aGuard_ft, aGuard_ff, aGuard_tb, aGuard_fb, aGuard_ts, aGuard_fs, aPick_b, aPick_t, aPick_f, aAlloc_one, aAlloc_flat, aBox_some, aBuild_flat, aInt_add, aBin_add, aInt_sub, aBin_sub, aInt_mul, aBin_mul, aInt_quo, aBin_quo, aInt_rem, aBin_rem, aInt_and, aBin_and, aInt_or, aBin_or, aInt_xor, aBin_xor, aInt_andNot, aBin_andNot, aInt_eql, aBin_eql, aInt_neq, aBin_neq, aInt_lss, aBin_lss, aInt_leq, aBin_leq, aInt_gtr, aBin_gtr, aInt_geq, aBin_geq, aBin_shl, aBin_shr, aShift_shl, aShift_shr, aBin_be1, aBin_bn1, aBin_be2, aBin_bn2, aBin_be3, aBin_bn3, aBin_be4, aBin_bn4, aBin_be5, aBin_bn5, aBin_be6, aBin_bn6, aBin_be7, aBin_bn7, aBin_be8, aBin_bn8, aBin_be9, aBin_bn9, aUn_b, aUn_t, aUn_f, aUn_i, aNil_ptr, aNil_pv, aConv_int, aField_ptr, aField_pv, aIdx_sl, aIdx_prm, aIdx_row, aIdx_drow, aMake_i, aMake_s, aExtr_tup, aLen_ref, aLen_nil, aLen_sl, aLen_prm, aLen_str, aBuildL_some, aBuildS_some, aLoad_1b, aLoad_1d, aLoad_fb, aLoad_fd, aLoad_1p, aLoad_fp, aLoad_ep, aLoad_rr, aLoad_rd, aStore_1, aStore_f, aStore_r, aApp_some, aAppend_nil, aAppend_ref, aSlice_h, aSlice_l, aSlice_lh, bc_draw, kregD_at, aopsD_nil, aopsD_plain, aopsD_guard, kontD_at, contD_at, yesD_at, noD_at, splD_bool, splD_undef, splD_skip, splD_int, splD_tt, splD_ff, splD_str, splD_nil, splD_sl, splD_prm, splD_ref, splD_ptr, splD_rp, splD_ep, splD_pv, splD_agg, splD_tup, splD_clo, gD_tt, gD_tf, gD_ft, gD_ff, gD_ts, gD_fs, slotO_some, addTr_nil, addTr_cons, memQ_nil, memQ_cons, clash_nil, clash_cons, regC_none, regC_nil, regC_cons, regR_nil, regR_cons, Int.toNat_zero, Int.toNat_one, rng0, rng1, rng2, rng3, rng4, SC.take, SC.drop, mp_nil, acond_ct, acond_cf, mp_one0, mp_one1, mp_one2, mp_one3, kcall_one, liveB_row, liveB_box, idx, cont, still, dies, lend, lendA, lendDies, snocs, SC.snoc, SC.app, meet, AV.cells, fillA, List.getD_cons_zero, List.getD_cons_succ, List.set_cons_zero, List.set_cons_succ, List.length_singleton, Nat.le_refl, Nat.lt_irrefl, Nat.reduceLT, Nat.reduceLeDiff, Option.map_some, Option.map_none, List.flatMap_nil, List.flatMap_cons, Nat.zero_add, BEq.rfl, sl3, ty3, un3, sl56, ty56, un56, sl85, ty85, un85, sl83, ty83, un83, sl5, ty5, un5, sl2, ty2, un2, sl21, ty21, un21, sl4, ty4, un4, sl9, un9, sl22, ty22, un22, ty39, sl39, ty33, sl33, inR64, inRu64, inRu32, gs_spec_HallViolator_48, at_spec_l28Lists, lend_spec_l28Lists, gs_spec_HallViolator_58, at_spec_l2Size, lend_spec_l2Size, gs_spec_HallViolator_72, at_spec_l28Union, lend_spec_l28Union, gs_spec_HallViolator_73, at_spec_l2List, lend_spec_l2List, Try.f36]
  simp only [lensA, lenA, lenSC] at hl
  by_cases hf : fewB n l = true
  case neg =>
    have hf' : fewB n l = false := by simpa using hf
    have hn := hall_f hf'
    rw [hn.1, hn.2]
    refine bc_loop (fun i : Nat => i = 1) (fun i => ⟨[(0, .int .i64 n), (1, .prm 1 (.ints .i64 l)), (6, .int .i64 i)], []⟩) (fun i => 0)
      [0, 1, 6] [] 1 rfl (by simp [St.conv, St.bf, getE, putE, getB, cv, cvL, cvB, idx, still, pack, lifts, liftOne, cellsOfB, setB]) rfl fun i h1 => ?_
    simp only [kcode_at, kreg_at, bc_skip, bc_seq, bc_cond, bc_block, bc_exit, bc_ret, bc_region, lkX_cons, acond_tmp, aCase_t, aCase_f, aCase_b, afin_nil, cvE_some, resL, resV, resC, cv, cvL, pack, entryE, inPrm, Option.getD_some, acall_clo, add_sp, add_lend, kcall_nil, selOf, selA, inArgs, inA, inL, okA, okL, okBx, okC, outA, outL, outU, outB, deep, deepL, boxIds, AV.bid, List.map_nil, List.map_cons, List.all_nil, List.all_cons, BEq.rfl, Bool.and_true, Bool.true_and, List.append_nil, aops_nil, aops_plain, aops_guard, kont_at, yes_at, no_at, aop_move, aop_assign, aop_pick, aop_alloc, aop_box, aop_build, aop_buildSlice, aop_load, aop_store, aop_nilCheck, aop_binOp, aop_unOp, aop_convert, aop_fieldAddr, aop_indexAddr, aop_slice, aop_extract, aop_makeSlice, aop_len, aop_max, aMax_int, slTy2, SC0, aop_append, aop_call, evalE, getE, putE, getB, setB, St.put, setsB, nth, AV.ofV, AV.blk, AV.bid, AV.one, SC.len, SC.get, List.length_nil, List.length_cons, Nat.reduceEqDiff, Nat.reduceAdd, ↓reduceIte, true_and, and_true, Bool.true_eq_false, Bool.false_eq_true, false_imp_iff, true_imp_iff, decide_eq_true_eq, Bool.not_eq_true', Bool.not_eq_false', decide_eq_false_iff_not, Option.isSome, List.nil_append, List.cons_append, aGuardO_some, aGuard_tt, aGuard_tf, aGuard_ft, aGuard_ff, aGuard_tb, aGuard_fb, aGuard_ts, aGuard_fs, aPick_b, aPick_t, aPick_f, aAlloc_one, aAlloc_flat, aBox_some, aBuild_flat, aInt_add, aBin_add, aInt_sub, aBin_sub, aInt_mul, aBin_mul, aInt_quo, aBin_quo, aInt_rem, aBin_rem, aInt_and, aBin_and, aInt_or, aBin_or, aInt_xor, aBin_xor, aInt_andNot, aBin_andNot, aInt_eql, aBin_eql, aInt_neq, aBin_neq, aInt_lss, aBin_lss, aInt_leq, aBin_leq, aInt_gtr, aBin_gtr, aInt_geq, aBin_geq, aBin_shl, aBin_shr, aShift_shl, aShift_shr, aBin_be1, aBin_bn1, aBin_be2, aBin_bn2, aBin_be3, aBin_bn3, aBin_be4, aBin_bn4, aBin_be5, aBin_bn5, aBin_be6, aBin_bn6, aBin_be7, aBin_bn7, aBin_be8, aBin_bn8, aBin_be9, aBin_bn9, aUn_b, aUn_t, aUn_f, aUn_i, aNil_ptr, aNil_pv, aConv_int, aField_ptr, aField_pv, aIdx_sl, aIdx_prm, aIdx_row, aIdx_drow, aMake_i, aMake_s, aExtr_tup, aLen_ref, aLen_nil, aLen_sl, aLen_prm, aLen_str, aBuildL_some, aBuildS_some, aLoad_1b, aLoad_1d, aLoad_fb, aLoad_fd, aLoad_1p, aLoad_fp, aLoad_ep, aLoad_rr, aLoad_rd, aStore_1, aStore_f, aStore_r, aApp_some, aAppend_nil, aAppend_ref, aSlice_h, aSlice_l, aSlice_lh, bc_draw, kregD_at, aopsD_nil, aopsD_plain, aopsD_guard, kontD_at, contD_at, yesD_at, noD_at, splD_bool, splD_undef, splD_skip, splD_int, splD_tt, splD_ff, splD_str, splD_nil, splD_sl, splD_prm, splD_ref, splD_ptr, splD_rp, splD_ep, splD_pv, splD_agg, splD_tup, splD_clo, gD_tt, gD_tf, gD_ft, gD_ff, gD_ts, gD_fs, slotO_some, addTr_nil, addTr_cons, memQ_nil, memQ_cons, clash_nil, clash_cons, regC_none, regC_nil, regC_cons, regR_nil, regR_cons, Int.toNat_zero, Int.toNat_one, rng0, rng1, rng2, rng3, rng4, SC.take, SC.drop, mp_nil, acond_ct, acond_cf, mp_one0, mp_one1, mp_one2, mp_one3, kcall_one, liveB_row, liveB_box, idx, cont, still, dies, lend, lendA, lendDies, snocs, SC.snoc, SC.app, meet, AV.cells, fillA, List.getD_cons_zero, List.getD_cons_succ, List.set_cons_zero, List.set_cons_succ, List.length_singleton, Nat.le_refl, Nat.lt_irrefl, Nat.reduceLT, Nat.reduceLeDiff, Option.map_some, Option.map_none, List.flatMap_nil, List.flatMap_cons, Nat.zero_add, BEq.rfl, sl3, ty3, un3, sl56, ty56, un56, sl85, ty85, un85, sl83, ty83, un83, sl5, ty5, un5, sl2, ty2, un2, sl21, ty21, un21, sl4, ty4, un4, sl9, un9, sl22, ty22, un22, ty39, sl39, ty33, sl33, inR64, inRu64, inRu32, gs_spec_HallViolator_48, at_spec_l28Lists, lend_spec_l28Lists, gs_spec_HallViolator_58, at_spec_l2Size, lend_spec_l2Size, gs_spec_HallViolator_72, at_spec_l28Union, lend_spec_l28Union, gs_spec_HallViolator_73, at_spec_l2List, lend_spec_l2List, Int.toNat_natCast]
    exact ⟨fun h => absurd h hf, fun _ => afin_of [0] rfl rfl (by simp [St.conv, St.bf, getE, putE, getB, cv, cvL, cvB, idx, still, pack, lifts, liftOne, cellsOfB, setB]) (by simp [St.conv, St.bf, getE, putE, getB, cv, cvL, cvB, idx, still, pack, lifts, liftOne, cellsOfB, setB])⟩
  obtain ⟨h6, hs⟩ := fewB_iff.1 hf
  have hb := setsOk_bd hs
  obtain ⟨e1, e2, e3⟩ := two_pow6 h6
  have p0 : hallP l 0 = false := by
    have zu : ∀ n, unionF l 0 n = 0 := fun n => by
      induction n with
      | zero => rfl
      | succ n ih => simp only [unionF, Int.zero_ediv]; rw [if_neg (by decide)]; exact ih
    refine hallP_f ?_
    unfold lackN lackI; rw [show ((0 : Nat) : Int) = 0 from rfl, zu]; simp
  refine bc_loop (fun i : Nat => 1 ≤ i ∧ i ≤ 2 ^ l.length ∧ ∀ k, k < i → hallP l k = false)
    (fun i => ⟨[(0, .int .i64 n), (1, .prm 1 (.ints .i64 l)), (6, .int .i64 i)], []⟩) (fun i => 2 ^ l.length - i)
    [0, 1, 6] [] 1 rfl (by simp [St.conv, St.bf, getE, putE, getB, cv, cvL, cvB, idx, still, pack, lifts, liftOne, cellsOfB, setB]) ⟨by omega, by omega, fun k hk => (by
      have h0 : k = 0 := by omega
      rw [h0]; exact p0)⟩ fun i ⟨h1, h2, h3⟩ => ?_
  simp only [kcode_at, kreg_at, bc_skip, bc_seq, bc_cond, bc_block, bc_exit, bc_ret, bc_region, lkX_cons, acond_tmp, aCase_t, aCase_f, aCase_b, afin_nil, cvE_some, resL, resV, resC, cv, cvL, pack, entryE, inPrm, Option.getD_some, acall_clo, add_sp, add_lend, kcall_nil, selOf, selA, inArgs, inA, inL, okA, okL, okBx, okC, outA, outL, outU, outB, deep, deepL, boxIds, AV.bid, List.map_nil, List.map_cons, List.all_nil, List.all_cons, BEq.rfl, Bool.and_true, Bool.true_and, List.append_nil, aops_nil, aops_plain, aops_guard, kont_at, yes_at, no_at, aop_move, aop_assign, aop_pick, aop_alloc, aop_box, aop_build, aop_buildSlice, aop_load, aop_store, aop_nilCheck, aop_binOp, aop_unOp, aop_convert, aop_fieldAddr, aop_indexAddr, aop_slice, aop_extract, aop_makeSlice, aop_len, aop_max, aMax_int, slTy2, SC0, aop_append, aop_call, evalE, getE, putE, getB, setB, St.put, setsB, nth, AV.ofV, AV.blk, AV.bid, AV.one, SC.len, SC.get, List.length_nil, List.length_cons, Nat.reduceEqDiff, Nat.reduceAdd, ↓reduceIte, true_and, and_true, Bool.true_eq_false, Bool.false_eq_true, false_imp_iff, true_imp_iff, decide_eq_true_eq, Bool.not_eq_true', Bool.not_eq_false', decide_eq_false_iff_not, Option.isSome, List.nil_append, List.cons_append, aGuardO_some, aGuard_tt, aGuard_tf, aGuard_ft, aGuard_ff, aGuard_tb, aGuard_fb, aGuard_ts, aGuard_fs, aPick_b, aPick_t, aPick_f, aAlloc_one, aAlloc_flat, aBox_some, aBuild_flat, aInt_add, aBin_add, aInt_sub, aBin_sub, aInt_mul, aBin_mul, aInt_quo, aBin_quo, aInt_rem, aBin_rem, aInt_and, aBin_and, aInt_or, aBin_or, aInt_xor, aBin_xor, aInt_andNot, aBin_andNot, aInt_eql, aBin_eql, aInt_neq, aBin_neq, aInt_lss, aBin_lss, aInt_leq, aBin_leq, aInt_gtr, aBin_gtr, aInt_geq, aBin_geq, aBin_shl, aBin_shr, aShift_shl, aShift_shr, aBin_be1, aBin_bn1, aBin_be2, aBin_bn2, aBin_be3, aBin_bn3, aBin_be4, aBin_bn4, aBin_be5, aBin_bn5, aBin_be6, aBin_bn6, aBin_be7, aBin_bn7, aBin_be8, aBin_bn8, aBin_be9, aBin_bn9, aUn_b, aUn_t, aUn_f, aUn_i, aNil_ptr, aNil_pv, aConv_int, aField_ptr, aField_pv, aIdx_sl, aIdx_prm, aIdx_row, aIdx_drow, aMake_i, aMake_s, aExtr_tup, aLen_ref, aLen_nil, aLen_sl, aLen_prm, aLen_str, aBuildL_some, aBuildS_some, aLoad_1b, aLoad_1d, aLoad_fb, aLoad_fd, aLoad_1p, aLoad_fp, aLoad_ep, aLoad_rr, aLoad_rd, aStore_1, aStore_f, aStore_r, aApp_some, aAppend_nil, aAppend_ref, aSlice_h, aSlice_l, aSlice_lh, bc_draw, kregD_at, aopsD_nil, aopsD_plain, aopsD_guard, kontD_at, contD_at, yesD_at, noD_at, splD_bool, splD_undef, splD_skip, splD_int, splD_tt, splD_ff, splD_str, splD_nil, splD_sl, splD_prm, splD_ref, splD_ptr, splD_rp, splD_ep, splD_pv, splD_agg, splD_tup, splD_clo, gD_tt, gD_tf, gD_ft, gD_ff, gD_ts, gD_fs, slotO_some, addTr_nil, addTr_cons, memQ_nil, memQ_cons, clash_nil, clash_cons, regC_none, regC_nil, regC_cons, regR_nil, regR_cons, Int.toNat_zero, Int.toNat_one, rng0, rng1, rng2, rng3, rng4, SC.take, SC.drop, mp_nil, acond_ct, acond_cf, mp_one0, mp_one1, mp_one2, mp_one3, kcall_one, liveB_row, liveB_box, idx, cont, still, dies, lend, lendA, lendDies, snocs, SC.snoc, SC.app, meet, AV.cells, fillA, List.getD_cons_zero, List.getD_cons_succ, List.set_cons_zero, List.set_cons_succ, List.length_singleton, Nat.le_refl, Nat.lt_irrefl, Nat.reduceLT, Nat.reduceLeDiff, Option.map_some, Option.map_none, List.flatMap_nil, List.flatMap_cons, Nat.zero_add, BEq.rfl, sl3, ty3, un3, sl56, ty56, un56, sl85, ty85, un85, sl83, ty83, un83, sl5, ty5, un5, sl2, ty2, un2, sl21, ty21, un21, sl4, ty4, un4, sl9, un9, sl22, ty22, un22, ty39, sl39, ty33, sl33, inR64, inRu64, inRu32, gs_spec_HallViolator_48, at_spec_l28Lists, lend_spec_l28Lists, gs_spec_HallViolator_58, at_spec_l2Size, lend_spec_l2Size, gs_spec_HallViolator_72, at_spec_l28Union, lend_spec_l28Union, gs_spec_HallViolator_73, at_spec_l2List, lend_spec_l2List, Int.toNat_natCast]
  rw [e1]
  simp only [IntKind.bits]
  have hu := unionF_bd (l := l) (code := i) (n := l.length) fun j hj => ⟨(hb.2 j hj).1, (hb.2 j hj).2.1⟩
  refine ⟨fun _ => ⟨by omega, fun hi => ⟨h6, by omega, by omega, fun hp => ⟨by omega, ?_⟩, fun hp => ⟨by omega, klp_of (i + 1) ?_ ⟨by omega, by omega, fun k hk => ?_⟩ (by omega)⟩⟩, fun hi => ?_⟩, fun h => absurd (hf.symm.trans h) (by decide)⟩
  · have h := hall_s hf (firstN_some (n := 2 ^ l.length) (i := i) (p := hallP l) (by omega) (hallP_t (by unfold lackN lackI; omega)) h3)
    rw [h.1, h.2]
    exact afin_of [0] rfl rfl (by simp [St.conv, St.bf, getE, putE, getB, cv, cvL, cvB, idx, still, pack, lifts, liftOne, cellsOfB, setB]) (by simp [St.conv, St.bf, getE, putE, getB, cv, cvL, cvB, idx, still, pack, lifts, liftOne, cellsOfB, setB])
  · simp [St.conv, St.bf, getE, putE, getB, cv, cvL, cvB, idx, still, pack, lifts, liftOne, cellsOfB, setB]
  · by_cases hk2 : k < i
    · exact h3 k hk2
    · have : k = i := by omega
      subst this
      exact hallP_f (by unfold lackN lackI; omega)
  · have : i = 2 ^ l.length := by omega
    have h := hall_n (n := n) (firstN_none (n := 2 ^ l.length) (p := hallP l) (fun k hk => h3 k (by omega)))
    rw [h.1, h.2]
    exact afin_of [0] rfl rfl (by simp [St.conv, St.bf, getE, putE, getB, cv, cvL, cvB, idx, still, pack, lifts, liftOne, cellsOfB, setB]) (by simp [St.conv, St.bf, getE, putE, getB, cv, cvL, cvB, idx, still, pack, lifts, liftOne, cellsOfB, setB])
def lend_spec_HallViolator : List Nat := []
def sp_spec_HallViolator : List AV → List Bx → (AV → List Bx → Prop) → Prop
  | [.int .i64 n, .sl none (.ints .i64 l)], [], K => K (.tup [.ref 0 (hallL n l).length, .bool (hallB n l)]) [.row 3 (.ints .i64 (hallL n l))]
  | _, _, _ => False
theorem at_spec_HallViolator {n : Int} {l : List Int} {K : AV → List Bx → Prop} : sp_spec_HallViolator [.int .i64 n, .sl none (.ints .i64 l)] [] K = (K (.tup [.ref 0 (hallL n l).length, .bool (hallB n l)]) [.row 3 (.ints .i64 (hallL n l))]) := id rfl
theorem ok_spec_HallViolator : ∀ args giv K, sp_spec_HallViolator args giv K → ∃ r outs, ARuns Try.prog 36 args giv r outs ∧ K r outs := by
  intro args giv K hk
  unfold sp_spec_HallViolator at hk
  split at hk
  · exact ⟨_, _, runs_spec_HallViolator _ _ , hk⟩
  · exact hk.elim
theorem is_impl_within : FnIs Try.prog 59 15 [.tmp 6] (Try.f59.body.getD .skip) := ⟨⟨Try.f59, by kernel_rfl, by kernel_rfl, by kernel_rfl, by kernel_rfl⟩, by kernel_rfl, by kernel_rfl⟩
def G_impl_within : Gm := Gm.none
theorem G_impl_within_ok : G_impl_within.ok Try.prog := Gm.none_ok
set_option maxHeartbeats 1000000 in
set_option maxRecDepth 100000 in
theorem runs_impl_within (n l m : Int) : ARuns Try.prog 59 [.int .i64 n, .int .i64 l, .int .i64 m] [] (.bool (inB n l m)) [] := by
  refine ARuns_bc G_impl_within_ok is_impl_within (by simp) fun hl hlB => ?_
  simp only [kcode_at, kreg_at, bc_skip, bc_seq, bc_cond, bc_block, bc_exit, bc_ret, bc_region, lkX_cons, acond_tmp, aCase_t, aCase_f, aCase_b, afin_nil, cvE_some, resL, resV, resC, cv, cvL, pack, entryE, inPrm, Option.getD_some, acall_clo, add_sp, add_lend, kcall_nil, selOf, selA, inArgs, inA, inL, okA, okL, okBx, okC, outA, outL, outU, outB, deep, deepL, boxIds, AV.bid, List.map_nil, List.map_cons, List.all_nil, List.all_cons, BEq.rfl, Bool.and_true, Bool.true_and, List.append_nil, aops_nil, aops_plain, aops_guard, kont_at, yes_at, no_at, aop_move, aop_assign, aop_pick, aop_alloc, aop_box, aop_build, aop_buildSlice, aop_load, aop_store, aop_nilCheck, aop_binOp, aop_unOp, aop_convert, aop_fieldAddr, aop_indexAddr, aop_slice, aop_extract, aop_makeSlice, aop_len, aop_max, aMax_int, slTy2, SC0, aop_append, aop_call, evalE, getE, putE, getB, setB, St.put, setsB, nth, AV.ofV, AV.blk, AV.bid, AV.one, SC.len, SC.get, List.length_nil, List.length_cons, Nat.reduceEqDiff, Nat.reduceAdd, ↓reduceIte, true_and, and_true, Bool.true_eq_false, Bool.false_eq_true, false_imp_iff, true_imp_iff, decide_eq_true_eq, Bool.not_eq_true', Bool.not_eq_false', decide_eq_false_iff_not, Option.isSome, List.nil_append, List.cons_append, aGuardO_some, aGuard_tt, aGuard_tf, aGuard_ft, aGuard_ff, aGuard_tb, aGuard_fb, aGuard_ts, aGuard_fs, aPick_b, aPick_t, aPick_f, aAlloc_one, aAlloc_flat, aBox_some, aBuild_flat, aInt_add, aBin_add, aInt_sub, aBin_sub, aInt_mul, aBin_mul, aInt_quo, aBin_quo, aInt_rem, aBin_rem, aInt_and, aBin_and, aInt_or, aBin_or, aInt_xor, aBin_xor, aInt_andNot, aBin_andNot, aInt_eql, aBin_eql, aInt_neq, aBin_neq, aInt_lss, aBin_lss, aInt_leq, aBin_leq, aInt_gtr, aBin_gtr, aInt_geq, aBin_geq, aBin_shl, aBin_shr, aShift_shl, aShift_shr, aBin_be1, aBin_bn1, aBin_be2, aBin_bn2, aBin_be3, aBin_bn3, aBin_be4, aBin_bn4, aBin_be5, aBin_bn5, aBin_be6, aBin_bn6, aBin_be7, aBin_bn7, aBin_be8, aBin_bn8, aBin_be9, aBin_bn9, aUn_b, aUn_t, aUn_f, aUn_i, aNil_ptr, aNil_pv, aConv_int, aField_ptr, aField_pv, aIdx_sl, aIdx_prm, aIdx_row, aIdx_drow, aMake_i, aMake_s, aExtr_tup, aLen_ref, aLen_nil, aLen_sl, aLen_prm, aLen_str, aBuildL_some, aBuildS_some, aLoad_1b, aLoad_1d, aLoad_fb, aLoad_fd, aLoad_1p, aLoad_fp, aLoad_ep, aLoad_rr, aLoad_rd, aStore_1, aStore_f, aStore_r, aApp_some, aAppend_nil, aAppend_ref, aSlice_h, aSlice_l, aSlice_lh, bc_draw, kregD_at, aopsD_nil, aopsD_plain, aopsD_guard, kontD_at, contD_at, yesD_at, noD_at, splD_bool, splD_undef, splD_skip, splD_int, splD_tt, splD_ff, splD_str, splD_nil, splD_sl, splD_prm, splD_ref, splD_ptr, splD_rp, splD_ep, splD_pv, splD_agg, splD_tup, splD_clo, gD_tt, gD_tf, gD_ft, gD_ff, gD_ts, gD_fs, slotO_some, addTr_nil, addTr_cons, memQ_nil, memQ_cons, clash_nil, clash_cons, regC_none, regC_nil, regC_cons, regR_nil, regR_cons, Int.toNat_zero, Int.toNat_one, rng0, rng1, rng2, rng3, rng4, SC.take, SC.drop, mp_nil, acond_ct, acond_cf, mp_one0, mp_one1, mp_one2, mp_one3, kcall_one, liveB_row, liveB_box, idx, cont, still, dies, lend, lendA, lendDies, snocs, SC.snoc, SC.app, meet, AV.cells, fillA, List.getD_cons_zero, List.getD_cons_succ, List.set_cons_zero, List.set_cons_succ, List.length_singleton, Nat.le_refl, Nat.lt_irrefl, Nat.reduceLT, Nat.reduceLeDiff, Option.map_some, Option.map_none, List.flatMap_nil, List.flatMap_cons, Nat.zero_add, BEq.rfl, sl3, ty3, un3, sl56, ty56, un56, sl85, ty85, un85, sl83, ty83, un83, sl5, ty5, un5, sl2, ty2, un2, sl21, ty21, un21, sl4, ty4, un4, sl9, un9, sl22, ty22, un22, ty39, sl39, ty33, sl33, inR64, inRu64, inRu32, Try.f59]
  refine ⟨fun h => ?_, fun h => ?_⟩ <;> simp [h, inB]
def lend_impl_within : List Nat := []
def sp_impl_within : List AV → List Bx → (AV → List Bx → Prop) → Prop
  | [.int .i64 n, .int .i64 l, .int .i64 m], [], K => K (.bool (inB n l m)) []
  | _, _, _ => False
theorem at_impl_within {n l m : Int} {K : AV → List Bx → Prop} : sp_impl_within [.int .i64 n, .int .i64 l, .int .i64 m] [] K = (K (.bool (inB n l m)) []) := id rfl
theorem ok_impl_within : ∀ args giv K, sp_impl_within args giv K → ∃ r outs, ARuns Try.prog 59 args giv r outs ∧ K r outs := by
  intro args giv K hk
  unfold sp_impl_within at hk
  split at hk
  · exact ⟨_, _, runs_impl_within _ _ _ , hk⟩
  · exact hk.elim
theorem is_impl_isSetOf : FnIs Try.prog 101 14 [.tmp 4] (Try.f101.body.getD .skip) := ⟨⟨Try.f101, by kernel_rfl, by kernel_rfl, by kernel_rfl, by kernel_rfl⟩, by kernel_rfl, by kernel_rfl⟩
def G_impl_isSetOf : Gm := Gm.none
theorem G_impl_isSetOf_ok : G_impl_isSetOf.ok Try.prog := Gm.none_ok
set_option maxHeartbeats 1000000 in
set_option maxRecDepth 100000 in
theorem runs_impl_isSetOf (n s : Int) (hp1 : 0 ≤ n ∧ n ≤ 62) : ARuns Try.prog 101 [.int .i64 n, .int .i64 s] [] (.bool (inS n s)) [] := by
  refine ARuns_bc G_impl_isSetOf_ok is_impl_isSetOf (by simp) fun hl hlB => ?_
  simp only [kcode_at, kreg_at, bc_skip, bc_seq, bc_cond, bc_block, bc_exit, bc_ret, bc_region, lkX_cons, acond_tmp, aCase_t, aCase_f, aCase_b, afin_nil, cvE_some, resL, resV, resC, cv, cvL, pack, entryE, inPrm, Option.getD_some, acall_clo, add_sp, add_lend, kcall_nil, selOf, selA, inArgs, inA, inL, okA, okL, okBx, okC, outA, outL, outU, outB, deep, deepL, boxIds, AV.bid, List.map_nil, List.map_cons, List.all_nil, List.all_cons, BEq.rfl, Bool.and_true, Bool.true_and, List.append_nil, aops_nil, aops_plain, aops_guard, kont_at, yes_at, no_at, aop_move, aop_assign, aop_pick, aop_alloc, aop_box, aop_build, aop_buildSlice, aop_load, aop_store, aop_nilCheck, aop_binOp, aop_unOp, aop_convert, aop_fieldAddr, aop_indexAddr, aop_slice, aop_extract, aop_makeSlice, aop_len, aop_max, aMax_int, slTy2, SC0, aop_append, aop_call, evalE, getE, putE, getB, setB, St.put, setsB, nth, AV.ofV, AV.blk, AV.bid, AV.one, SC.len, SC.get, List.length_nil, List.length_cons, Nat.reduceEqDiff, Nat.reduceAdd, ↓reduceIte, true_and, and_true, Bool.true_eq_false, Bool.false_eq_true, false_imp_iff, true_imp_iff, decide_eq_true_eq, Bool.not_eq_true', Bool.not_eq_false', decide_eq_false_iff_not, Option.isSome, List.nil_append, List.cons_append, aGuardO_some, aGuard_tt, aGuard_tf, aGuard_ft, aGuard_ff, aGuard_tb, aGuard_fb, aGuard_ts, aGuard_fs, aPick_b, aPick_t, aPick_f, aAlloc_one, aAlloc_flat, aBox_some, aBuild_flat, aInt_add, aBin_add, aInt_sub, aBin_sub, aInt_mul, aBin_mul, aInt_quo, aBin_quo, aInt_rem, aBin_rem, aInt_and, aBin_and, aInt_or, aBin_or, aInt_xor, aBin_xor, aInt_andNot, aBin_andNot, aInt_eql, aBin_eql, aInt_neq, aBin_neq, aInt_lss, aBin_lss, aInt_leq, aBin_leq, aInt_gtr, aBin_gtr, aInt_geq, aBin_geq, aBin_shl, aBin_shr, aShift_shl, aShift_shr, aBin_be1, aBin_bn1, aBin_be2, aBin_bn2, aBin_be3, aBin_bn3, aBin_be4, aBin_bn4, aBin_be5, aBin_bn5, aBin_be6, aBin_bn6, aBin_be7, aBin_bn7, aBin_be8, aBin_bn8, aBin_be9, aBin_bn9, aUn_b, aUn_t, aUn_f, aUn_i, aNil_ptr, aNil_pv, aConv_int, aField_ptr, aField_pv, aIdx_sl, aIdx_prm, aIdx_row, aIdx_drow, aMake_i, aMake_s, aExtr_tup, aLen_ref, aLen_nil, aLen_sl, aLen_prm, aLen_str, aBuildL_some, aBuildS_some, aLoad_1b, aLoad_1d, aLoad_fb, aLoad_fd, aLoad_1p, aLoad_fp, aLoad_ep, aLoad_rr, aLoad_rd, aStore_1, aStore_f, aStore_r, aApp_some, aAppend_nil, aAppend_ref, aSlice_h, aSlice_l, aSlice_lh, bc_draw, kregD_at, aopsD_nil, aopsD_plain, aopsD_guard, kontD_at, contD_at, yesD_at, noD_at, splD_bool, splD_undef, splD_skip, splD_int, splD_tt, splD_ff, splD_str, splD_nil, splD_sl, splD_prm, splD_ref, splD_ptr, splD_rp, splD_ep, splD_pv, splD_agg, splD_tup, splD_clo, gD_tt, gD_tf, gD_ft, gD_ff, gD_ts, gD_fs, slotO_some, addTr_nil, addTr_cons, memQ_nil, memQ_cons, clash_nil, clash_cons, regC_none, regC_nil, regC_cons, regR_nil, regR_cons, Int.toNat_zero, Int.toNat_one, rng0, rng1, rng2, rng3, rng4, SC.take, SC.drop, mp_nil, acond_ct, acond_cf, mp_one0, mp_one1, mp_one2, mp_one3, kcall_one, liveB_row, liveB_box, idx, cont, still, dies, lend, lendA, lendDies, snocs, SC.snoc, SC.app, meet, AV.cells, fillA, List.getD_cons_zero, List.getD_cons_succ, List.set_cons_zero, List.set_cons_succ, List.length_singleton, Nat.le_refl, Nat.lt_irrefl, Nat.reduceLT, Nat.reduceLeDiff, Option.map_some, Option.map_none, List.flatMap_nil, List.flatMap_cons, Nat.zero_add, BEq.rfl, sl3, ty3, un3, sl56, ty56, un56, sl85, ty85, un85, sl83, ty83, un83, sl5, ty5, un5, sl2, ty2, un2, sl21, ty21, un21, sl4, ty4, un4, sl9, un9, sl22, ty22, un22, ty39, sl39, ty33, sl33, inR64, inRu64, inRu32, Try.f101]
  have hb : (2 : Int) ^ n.toNat ≤ 2 ^ 62 := by
    have : (2 : Nat) ^ n.toNat ≤ 2 ^ 62 := Nat.pow_le_pow_right (by omega) (by omega)
    have h := Int.ofNat_le.2 this
    simpa using h
  have h0 : (0 : Int) ≤ 2 ^ n.toNat := Int.pow_nonneg (by omega)
  have e : inS n s = (decide (0 ≤ s) && decide (s ≤ 2 ^ n.toNat - 1)) := rfl
  rw [e]
  simp only [IntKind.bits]
  generalize (2 : Int) ^ n.toNat = q at *
  refine ⟨fun h => ⟨by omega, by omega, ?_⟩, fun h => ?_⟩
  · congr 1; rw [Bool.eq_iff_iff]; simp; omega
  · congr 1; rw [Bool.eq_iff_iff]; simp; omega
def lend_impl_isSetOf : List Nat := []
def sp_impl_isSetOf : List AV → List Bx → (AV → List Bx → Prop) → Prop
  | [.int .i64 n, .int .i64 s], [], K => (0 ≤ n ∧ n ≤ 62) ∧ K (.bool (inS n s)) []
  | _, _, _ => False
theorem at_impl_isSetOf {n s : Int} {K : AV → List Bx → Prop} : sp_impl_isSetOf [.int .i64 n, .int .i64 s] [] K = ((0 ≤ n ∧ n ≤ 62) ∧ K (.bool (inS n s)) []) := id rfl
theorem ok_impl_isSetOf : ∀ args giv K, sp_impl_isSetOf args giv K → ∃ r outs, ARuns Try.prog 101 args giv r outs ∧ K r outs := by
  intro args giv K hk
  unfold sp_impl_isSetOf at hk
  split at hk
  · obtain ⟨hp1, hk⟩ := hk; exact ⟨_, _, runs_impl_isSetOf _ _ hp1, hk⟩
  · exact hk.elim
theorem is_impl_areSets : FnIs Try.prog 88 21 [.tmp 4] (Try.f88.body.getD .skip) := ⟨⟨Try.f88, by kernel_rfl, by kernel_rfl, by kernel_rfl, by kernel_rfl⟩, by kernel_rfl, by kernel_rfl⟩
def G_impl_areSets : Gm := ((Gm.none.add 59 lend_impl_within sp_impl_within).add 101 lend_impl_isSetOf sp_impl_isSetOf)
theorem G_impl_areSets_ok : G_impl_areSets.ok Try.prog := (Gm.add_ok (Gm.add_ok Gm.none_ok ok_impl_within) ok_impl_isSetOf)
theorem gs_impl_areSets_59 : G_impl_areSets.sp 59 = sp_impl_within ∧ G_impl_areSets.lend 59 = lend_impl_within := ⟨rfl, rfl⟩
theorem gs_impl_areSets_101 : G_impl_areSets.sp 101 = sp_impl_isSetOf ∧ G_impl_areSets.lend 101 = lend_impl_isSetOf := ⟨rfl, rfl⟩
set_option maxHeartbeats 1000000 in
set_option maxRecDepth 100000 in
theorem runs_impl_areSets (n : Int) (xs : List Int) : ARuns Try.prog 88 [.int .i64 n, .sl none (.ints .i64 xs)] [] (.bool (setsOk n xs)) [] := by
  refine ARuns_bc G_impl_areSets_ok is_impl_areSets (by simp) fun hl hlB => ?_
  simp only [kcode_at, kreg_at, bc_skip, bc_seq, bc_cond, bc_block, bc_exit, bc_ret, bc_region, lkX_cons, acond_tmp, aCase_t, aCase_f, aCase_b, afin_nil, cvE_some, resL, resV, resC, cv, cvL, pack, entryE, inPrm, Option.getD_some, acall_clo, add_sp, add_lend, kcall_nil, selOf, selA, inArgs, inA, inL, okA, okL, okBx, okC, outA, outL, outU, outB, deep, deepL, boxIds, AV.bid, List.map_nil, List.map_cons, List.all_nil, List.all_cons, BEq.rfl, Bool.and_true, Bool.true_and, List.append_nil, aops_nil, aops_plain, aops_guard, kont_at, yes_at, no_at, aop_move, aop_assign, aop_pick, aop_alloc, aop_box, aop_build, aop_buildSlice, aop_load, aop_store, aop_nilCheck, aop_binOp, aop_unOp, aop_convert, aop_fieldAddr, aop_indexAddr, aop_slice, aop_extract, aop_makeSlice, aop_len, aop_max, aMax_int, slTy2, SC0, aop_append, aop_call, evalE, getE, putE, getB, setB, St.put, setsB, nth, AV.ofV, AV.blk, AV.bid, AV.one, SC.len, SC.get, List.length_nil, List.length_cons, Nat.reduceEqDiff, Nat.reduceAdd, ↓reduceIte, true_and, and_true, Bool.true_eq_false, Bool.false_eq_true, false_imp_iff, true_imp_iff, decide_eq_true_eq, Bool.not_eq_true', Bool.not_eq_false', decide_eq_false_iff_not, Option.isSome, List.nil_append, List.cons_append, aGuardO_some, aGuard_tt, aGuard_tf, aGuard_ft, aGuard_ff, aGuard_tb, aGuard_fb, aGuard_ts, aGuard_fs, aPick_b, aPick_t, aPick_f, aAlloc_one, aAlloc_flat, aBox_some, aBuild_flat, aInt_add, aBin_add, aInt_sub, aBin_sub, aInt_mul, aBin_mul, aInt_quo, aBin_quo, aInt_rem, aBin_rem, aInt_and, aBin_and, aInt_or, aBin_or, aInt_xor, aBin_xor, aInt_andNot, aBin_andNot, aInt_eql, aBin_eql, aInt_neq, aBin_neq, aInt_lss, aBin_lss, aInt_leq, aBin_leq, aInt_gtr, aBin_gtr, aInt_geq, aBin_geq, aBin_shl, aBin_shr, aShift_shl, aShift_shr, aBin_be1, aBin_bn1, aBin_be2, aBin_bn2, aBin_be3, aBin_bn3, aBin_be4, aBin_bn4, aBin_be5, aBin_bn5, aBin_be6, aBin_bn6, aBin_be7, aBin_bn7, aBin_be8, aBin_bn8, aBin_be9, aBin_bn9, aUn_b, aUn_t, aUn_f, aUn_i, aNil_ptr, aNil_pv, aConv_int, aField_ptr, aField_pv, aIdx_sl, aIdx_prm, aIdx_row, aIdx_drow, aMake_i, aMake_s, aExtr_tup, aLen_ref, aLen_nil, aLen_sl, aLen_prm, aLen_str, aBuildL_some, aBuildS_some, aLoad_1b, aLoad_1d, aLoad_fb, aLoad_fd, aLoad_1p, aLoad_fp, aLoad_ep, aLoad_rr, aLoad_rd, aStore_1, aStore_f, aStore_r, aApp_some, aAppend_nil, aAppend_ref, aSlice_h, aSlice_l, aSlice_lh, bc_draw, kregD_at, aopsD_nil, aopsD_plain, aopsD_guard, kontD_at, contD_at, yesD_at, noD_at, splD_bool, splD_undef, splD_skip, splD_int, splD_tt, splD_ff, splD_str, splD_nil, splD_sl, splD_prm, splD_ref, splD_ptr, splD_rp, splD_ep, splD_pv, splD_agg, splD_tup, splD_clo, gD_tt, gD_tf, gD_ft, gD_ff, gD_ts, gD_fs, slotO_some, addTr_nil, addTr_cons, memQ_nil, memQ_cons, clash_nil, clash_cons, regC_none, regC_nil, regC_cons, regR_nil, regR_cons, Int.toNat_zero, Int.toNat_one, rng0, rng1, rng2, rng3, rng4, SC.take, SC.drop, mp_nil, acond_ct, acond_cf, mp_one0, mp_one1, mp_one2, mp_one3, kcall_one, liveB_row, liveB_box, idx, cont, still, dies, lend, lendA, lendDies, snocs, SC.snoc, SC.app, meet, AV.cells, fillA, List.getD_cons_zero, List.getD_cons_succ, List.set_cons_zero, List.set_cons_succ, List.length_singleton, Nat.le_refl, Nat.lt_irrefl, Nat.reduceLT, Nat.reduceLeDiff, Option.map_some, Option.map_none, List.flatMap_nil, List.flatMap_cons, Nat.zero_add, BEq.rfl, sl3, ty3, un3, sl56, ty56, un56, sl85, ty85, un85, sl83, ty83, un83, sl5, ty5, un5, sl2, ty2, un2, sl21, ty21, un21, sl4, ty4, un4, sl9, un9, sl22, ty22, un22, ty39, sl39, ty33, sl33, inR64, inRu64, inRu32, gs_impl_areSets_59, at_impl_within, lend_impl_within, gs_impl_areSets_101, at_impl_isSetOf, lend_impl_isSetOf, Try.f88]
  simp only [lensA, lenA, lenSC] at hl
  refine ⟨fun h => by rw [setsOk, h]; rfl, fun hn => ?_⟩
  refine bc_loop (fun i : Nat => i ≤ xs.length ∧ ∀ k, k < i → inS n (xs.getD k 0) = true)
    (fun i => ⟨[(0, .int .i64 n), (10, .prm 1 (.ints .i64 xs)), (11, .int .i64 xs.length), (12, .int .i64 i)], []⟩) (fun i => xs.length - i)
    [0, 10, 11, 12] [] 0 rfl rfl (by simp) fun i ⟨h1, h2⟩ => ?_
  simp only [kcode_at, kreg_at, bc_skip, bc_seq, bc_cond, bc_block, bc_exit, bc_ret, bc_region, lkX_cons, acond_tmp, aCase_t, aCase_f, aCase_b, afin_nil, cvE_some, resL, resV, resC, cv, cvL, pack, entryE, inPrm, Option.getD_some, acall_clo, add_sp, add_lend, kcall_nil, selOf, selA, inArgs, inA, inL, okA, okL, okBx, okC, outA, outL, outU, outB, deep, deepL, boxIds, AV.bid, List.map_nil, List.map_cons, List.all_nil, List.all_cons, BEq.rfl, Bool.and_true, Bool.true_and, List.append_nil, aops_nil, aops_plain, aops_guard, kont_at, yes_at, no_at, aop_move, aop_assign, aop_pick, aop_alloc, aop_box, aop_build, aop_buildSlice, aop_load, aop_store, aop_nilCheck, aop_binOp, aop_unOp, aop_convert, aop_fieldAddr, aop_indexAddr, aop_slice, aop_extract, aop_makeSlice, aop_len, aop_max, aMax_int, slTy2, SC0, aop_append, aop_call, evalE, getE, putE, getB, setB, St.put, setsB, nth, AV.ofV, AV.blk, AV.bid, AV.one, SC.len, SC.get, List.length_nil, List.length_cons, Nat.reduceEqDiff, Nat.reduceAdd, ↓reduceIte, true_and, and_true, Bool.true_eq_false, Bool.false_eq_true, false_imp_iff, true_imp_iff, decide_eq_true_eq, Bool.not_eq_true', Bool.not_eq_false', decide_eq_false_iff_not, Option.isSome, List.nil_append, List.cons_append, aGuardO_some, aGuard_tt, aGuard_tf, aGuard_ft, aGuard_ff, aGuard_tb, aGuard_fb, aGuard_ts, aGuard_fs, aPick_b, aPick_t, aPick_f, aAlloc_one, aAlloc_flat, aBox_some, aBuild_flat, aInt_add, aBin_add, aInt_sub, aBin_sub, aInt_mul, aBin_mul, aInt_quo, aBin_quo, aInt_rem, aBin_rem, aInt_and, aBin_and, aInt_or, aBin_or, aInt_xor, aBin_xor, aInt_andNot, aBin_andNot, aInt_eql, aBin_eql, aInt_neq, aBin_neq, aInt_lss, aBin_lss, aInt_leq, aBin_leq, aInt_gtr, aBin_gtr, aInt_geq, aBin_geq, aBin_shl, aBin_shr, aShift_shl, aShift_shr, aBin_be1, aBin_bn1, aBin_be2, aBin_bn2, aBin_be3, aBin_bn3, aBin_be4, aBin_bn4, aBin_be5, aBin_bn5, aBin_be6, aBin_bn6, aBin_be7, aBin_bn7, aBin_be8, aBin_bn8, aBin_be9, aBin_bn9, aUn_b, aUn_t, aUn_f, aUn_i, aNil_ptr, aNil_pv, aConv_int, aField_ptr, aField_pv, aIdx_sl, aIdx_prm, aIdx_row, aIdx_drow, aMake_i, aMake_s, aExtr_tup, aLen_ref, aLen_nil, aLen_sl, aLen_prm, aLen_str, aBuildL_some, aBuildS_some, aLoad_1b, aLoad_1d, aLoad_fb, aLoad_fd, aLoad_1p, aLoad_fp, aLoad_ep, aLoad_rr, aLoad_rd, aStore_1, aStore_f, aStore_r, aApp_some, aAppend_nil, aAppend_ref, aSlice_h, aSlice_l, aSlice_lh, bc_draw, kregD_at, aopsD_nil, aopsD_plain, aopsD_guard, kontD_at, contD_at, yesD_at, noD_at, splD_bool, splD_undef, splD_skip, splD_int, splD_tt, splD_ff, splD_str, splD_nil, splD_sl, splD_prm, splD_ref, splD_ptr, splD_rp, splD_ep, splD_pv, splD_agg, splD_tup, splD_clo, gD_tt, gD_tf, gD_ft, gD_ff, gD_ts, gD_fs, slotO_some, addTr_nil, addTr_cons, memQ_nil, memQ_cons, clash_nil, clash_cons, regC_none, regC_nil, regC_cons, regR_nil, regR_cons, Int.toNat_zero, Int.toNat_one, rng0, rng1, rng2, rng3, rng4, SC.take, SC.drop, mp_nil, acond_ct, acond_cf, mp_one0, mp_one1, mp_one2, mp_one3, kcall_one, liveB_row, liveB_box, idx, cont, still, dies, lend, lendA, lendDies, snocs, SC.snoc, SC.app, meet, AV.cells, fillA, List.getD_cons_zero, List.getD_cons_succ, List.set_cons_zero, List.set_cons_succ, List.length_singleton, Nat.le_refl, Nat.lt_irrefl, Nat.reduceLT, Nat.reduceLeDiff, Option.map_some, Option.map_none, List.flatMap_nil, List.flatMap_cons, Nat.zero_add, BEq.rfl, sl3, ty3, un3, sl56, ty56, un56, sl85, ty85, un85, sl83, ty83, un83, sl5, ty5, un5, sl2, ty2, un2, sl21, ty21, un21, sl4, ty4, un4, sl9, un9, sl22, ty22, un22, ty39, sl39, ty33, sl33, inR64, inRu64, inRu32, gs_impl_areSets_59, at_impl_within, lend_impl_within, gs_impl_areSets_101, at_impl_isSetOf, lend_impl_isSetOf, Int.toNat_natCast]
  have hb := hn
  rw [inB_t] at hb
  refine ⟨fun hi => ⟨by omega, by omega, fun hf => ?_, fun ht => ⟨by omega, ?_⟩⟩, fun hi => ?_⟩
  · rw [setsOk, allN_f i (by omega) hf]; simp
  · exact klp_of (i + 1) rfl ⟨by omega, upto_succ h2 ht⟩ (by omega)
  · have : i = xs.length := by omega
    subst this
    rw [setsOk, hn, allN_t h2]; rfl
def lend_impl_areSets : List Nat := []
def sp_impl_areSets : List AV → List Bx → (AV → List Bx → Prop) → Prop
  | [.int .i64 n, .sl none (.ints .i64 xs)], [], K => K (.bool (setsOk n xs)) []
  | _, _, _ => False
theorem at_impl_areSets {n : Int} {xs : List Int} {K : AV → List Bx → Prop} : sp_impl_areSets [.int .i64 n, .sl none (.ints .i64 xs)] [] K = (K (.bool (setsOk n xs)) []) := id rfl
theorem ok_impl_areSets : ∀ args giv K, sp_impl_areSets args giv K → ∃ r outs, ARuns Try.prog 88 args giv r outs ∧ K r outs := by
  intro args giv K hk
  unfold sp_impl_areSets at hk
  split at hk
  · exact ⟨_, _, runs_impl_areSets _ _ , hk⟩
  · exact hk.elim
theorem is_impl_areFew : FnIs Try.prog 50 13 [.tmp 4] (Try.f50.body.getD .skip) := ⟨⟨Try.f50, by kernel_rfl, by kernel_rfl, by kernel_rfl, by kernel_rfl⟩, by kernel_rfl, by kernel_rfl⟩
def G_impl_areFew : Gm := (Gm.none.add 88 lend_impl_areSets sp_impl_areSets)
theorem G_impl_areFew_ok : G_impl_areFew.ok Try.prog := (Gm.add_ok Gm.none_ok ok_impl_areSets)
theorem gs_impl_areFew_88 : G_impl_areFew.sp 88 = sp_impl_areSets ∧ G_impl_areFew.lend 88 = lend_impl_areSets := ⟨rfl, rfl⟩
set_option maxHeartbeats 1000000 in
set_option maxRecDepth 100000 in
theorem runs_impl_areFew (n : Int) (xs : List Int) : ARuns Try.prog 50 [.int .i64 n, .sl none (.ints .i64 xs)] [] (.bool (fewB n xs)) [] := by
  refine ARuns_bc G_impl_areFew_ok is_impl_areFew (by simp) fun hl hlB => ?_
  simp only [kcode_at, kreg_at, bc_skip, bc_seq, bc_cond, bc_block, bc_exit, bc_ret, bc_region, lkX_cons, acond_tmp, aCase_t, aCase_f, aCase_b, afin_nil, cvE_some, resL, resV, resC, cv, cvL, pack, entryE, inPrm, Option.getD_some, acall_clo, add_sp, add_lend, kcall_nil, selOf, selA, inArgs, inA, inL, okA, okL, okBx, okC, outA, outL, outU, outB, deep, deepL, boxIds, AV.bid, List.map_nil, List.map_cons, List.all_nil, List.all_cons, BEq.rfl, Bool.and_true, Bool.true_and, List.append_nil, aops_nil, aops_plain, aops_guard, kont_at, yes_at, no_at, aop_move, aop_assign, aop_pick, aop_alloc, aop_box, aop_build, aop_buildSlice, aop_load, aop_store, aop_nilCheck, aop_binOp, aop_unOp, aop_convert, aop_fieldAddr, aop_indexAddr, aop_slice, aop_extract, aop_makeSlice, aop_len, aop_max, aMax_int, slTy2, SC0, aop_append, aop_call, evalE, getE, putE, getB, setB, St.put, setsB, nth, AV.ofV, AV.blk, AV.bid, AV.one, SC.len, SC.get, List.length_nil, List.length_cons, Nat.reduceEqDiff, Nat.reduceAdd, ↓reduceIte, true_and, and_true, Bool.true_eq_false, Bool.false_eq_true, false_imp_iff, true_imp_iff, decide_eq_true_eq, Bool.not_eq_true', Bool.not_eq_false', decide_eq_false_iff_not, Option.isSome, List.nil_append, List.cons_append, aGuardO_some, aGuard_tt, aGuard_tf, aGuard_ft, aGuard_ff, aGuard_tb, aGuard_fb, aGuard_ts, aGuard_fs, aPick_b, aPick_t, aPick_f, aAlloc_one, aAlloc_flat, aBox_some, aBuild_flat, aInt_add, aBin_add, aInt_sub, aBin_sub, aInt_mul, aBin_mul, aInt_quo, aBin_quo, aInt_rem, aBin_rem, aInt_and, aBin_and, aInt_or, aBin_or, aInt_xor, aBin_xor, aInt_andNot, aBin_andNot, aInt_eql, aBin_eql, aInt_neq, aBin_neq, aInt_lss, aBin_lss, aInt_leq, aBin_leq, aInt_gtr, aBin_gtr, aInt_geq, aBin_geq, aBin_shl, aBin_shr, aShift_shl, aShift_shr, aBin_be1, aBin_bn1, aBin_be2, aBin_bn2, aBin_be3, aBin_bn3, aBin_be4, aBin_bn4, aBin_be5, aBin_bn5, aBin_be6, aBin_bn6, aBin_be7, aBin_bn7, aBin_be8, aBin_bn8, aBin_be9, aBin_bn9, aUn_b, aUn_t, aUn_f, aUn_i, aNil_ptr, aNil_pv, aConv_int, aField_ptr, aField_pv, aIdx_sl, aIdx_prm, aIdx_row, aIdx_drow, aMake_i, aMake_s, aExtr_tup, aLen_ref, aLen_nil, aLen_sl, aLen_prm, aLen_str, aBuildL_some, aBuildS_some, aLoad_1b, aLoad_1d, aLoad_fb, aLoad_fd, aLoad_1p, aLoad_fp, aLoad_ep, aLoad_rr, aLoad_rd, aStore_1, aStore_f, aStore_r, aApp_some, aAppend_nil, aAppend_ref, aSlice_h, aSlice_l, aSlice_lh, bc_draw, kregD_at, aopsD_nil, aopsD_plain, aopsD_guard, kontD_at, contD_at, yesD_at, noD_at, splD_bool, splD_undef, splD_skip, splD_int, splD_tt, splD_ff, splD_str, splD_nil, splD_sl, splD_prm, splD_ref, splD_ptr, splD_rp, splD_ep, splD_pv, splD_agg, splD_tup, splD_clo, gD_tt, gD_tf, gD_ft, gD_ff, gD_ts, gD_fs, slotO_some, addTr_nil, addTr_cons, memQ_nil, memQ_cons, clash_nil, clash_cons, regC_none, regC_nil, regC_cons, regR_nil, regR_cons, Int.toNat_zero, Int.toNat_one, rng0, rng1, rng2, rng3, rng4, SC.take, SC.drop, mp_nil, acond_ct, acond_cf, mp_one0, mp_one1, mp_one2, mp_one3, kcall_one, liveB_row, liveB_box, idx, cont, still, dies, lend, lendA, lendDies, snocs, SC.snoc, SC.app, meet, AV.cells, fillA, List.getD_cons_zero, List.getD_cons_succ, List.set_cons_zero, List.set_cons_succ, List.length_singleton, Nat.le_refl, Nat.lt_irrefl, Nat.reduceLT, Nat.reduceLeDiff, Option.map_some, Option.map_none, List.flatMap_nil, List.flatMap_cons, Nat.zero_add, BEq.rfl, sl3, ty3, un3, sl56, ty56, un56, sl85, ty85, un85, sl83, ty83, un83, sl5, ty5, un5, sl2, ty2, un2, sl21, ty21, un21, sl4, ty4, un4, sl9, un9, sl22, ty22, un22, ty39, sl39, ty33, sl33, inR64, inRu64, inRu32, gs_impl_areFew_88, at_impl_areSets, lend_impl_areSets, Try.f50]
  refine ⟨fun h => ?_, fun h => ?_⟩
  · rw [fewB, decide_eq_true (by omega)]; rfl
  · rw [fewB, decide_eq_false (by omega)]; rfl
def lend_impl_areFew : List Nat := []
def sp_impl_areFew : List AV → List Bx → (AV → List Bx → Prop) → Prop
  | [.int .i64 n, .sl none (.ints .i64 xs)], [], K => K (.bool (fewB n xs)) []
  | _, _, _ => False
theorem at_impl_areFew {n : Int} {xs : List Int} {K : AV → List Bx → Prop} : sp_impl_areFew [.int .i64 n, .sl none (.ints .i64 xs)] [] K = (K (.bool (fewB n xs)) []) := id rfl
theorem ok_impl_areFew : ∀ args giv K, sp_impl_areFew args giv K → ∃ r outs, ARuns Try.prog 50 args giv r outs ∧ K r outs := by
  intro args giv K hk
  unfold sp_impl_areFew at hk
  split at hk
  · exact ⟨_, _, runs_impl_areFew _ _ , hk⟩
  · exact hk.elim
theorem is_impl_elementsOf : FnIs Try.prog 54 23 [.tmp 2] (Try.f54.body.getD .skip) := ⟨⟨Try.f54, by kernel_rfl, by kernel_rfl, by kernel_rfl, by kernel_rfl⟩, by kernel_rfl, by kernel_rfl⟩
def G_impl_elementsOf : Gm := Gm.none
theorem G_impl_elementsOf_ok : G_impl_elementsOf.ok Try.prog := Gm.none_ok
set_option maxHeartbeats 1000000 in
set_option maxRecDepth 100000 in
theorem runs_impl_elementsOf (s : Int) (hp1 : 0 ≤ s ∧ s < 2 ^ 62) : ARuns Try.prog 54 [.int .i64 s] [] (.ref 0 (elemsL s).length) [.row 3 (.ints .i64 (elemsL s))] := by
  refine ARuns_bc G_impl_elementsOf_ok is_impl_elementsOf (by simp) fun hl hlB => ?_
  simp only [kcode_at, kreg_at, bc_skip, bc_seq, bc_cond, bc_block, bc_exit, bc_ret, bc_region, lkX_cons, acond_tmp, aCase_t, aCase_f, aCase_b, afin_nil, cvE_some, resL, resV, resC, cv, cvL, pack, entryE, inPrm, Option.getD_some, acall_clo, add_sp, add_lend, kcall_nil, selOf, selA, inArgs, inA, inL, okA, okL, okBx, okC, outA, outL, outU, outB, deep, deepL, boxIds, AV.bid, List.map_nil, List.map_cons, List.all_nil, List.all_cons, BEq.rfl, Bool.and_true, Bool.true_and, List.append_nil, aops_nil, aops_plain, aops_guard, kont_at, yes_at, no_at, aop_move, aop_assign, aop_pick, aop_alloc, aop_box, aop_build, aop_buildSlice, aop_load, aop_store, aop_nilCheck, aop_binOp, aop_unOp, aop_convert, aop_fieldAddr, aop_indexAddr, aop_slice, aop_extract, aop_makeSlice, aop_len, aop_max, aMax_int, slTy2, SC0, aop_append, aop_call, evalE, getE, putE, getB, setB, St.put, setsB, nth, AV.ofV, AV.blk, AV.bid, AV.one, SC.len, SC.get, List.length_nil, List.length_cons, Nat.reduceEqDiff, Nat.reduceAdd, ↓reduceIte, true_and, and_true, Bool.true_eq_false, Bool.false_eq_true, false_imp_iff, true_imp_iff, decide_eq_true_eq, Bool.not_eq_true', Bool.not_eq_false', decide_eq_false_iff_not, Option.isSome, List.nil_append, List.cons_append, aGuardO_some, aGuard_tt, aGuard_tf, aGuard_ft, aGuard_ff, aGuard_tb, aGuard_fb, aGuard_ts, aGuard_fs, aPick_b, aPick_t, aPick_f, aAlloc_one, aAlloc_flat, aBox_some, aBuild_flat, aInt_add, aBin_add, aInt_sub, aBin_sub, aInt_mul, aBin_mul, aInt_quo, aBin_quo, aInt_rem, aBin_rem, aInt_and, aBin_and, aInt_or, aBin_or, aInt_xor, aBin_xor, aInt_andNot, aBin_andNot, aInt_eql, aBin_eql, aInt_neq, aBin_neq, aInt_lss, aBin_lss, aInt_leq, aBin_leq, aInt_gtr, aBin_gtr, aInt_geq, aBin_geq, aBin_shl, aBin_shr, aShift_shl, aShift_shr, aBin_be1, aBin_bn1, aBin_be2, aBin_bn2, aBin_be3, aBin_bn3, aBin_be4, aBin_bn4, aBin_be5, aBin_bn5, aBin_be6, aBin_bn6, aBin_be7, aBin_bn7, aBin_be8, aBin_bn8, aBin_be9, aBin_bn9, aUn_b, aUn_t, aUn_f, aUn_i, aNil_ptr, aNil_pv, aConv_int, aField_ptr, aField_pv, aIdx_sl, aIdx_prm, aIdx_row, aIdx_drow, aMake_i, aMake_s, aExtr_tup, aLen_ref, aLen_nil, aLen_sl, aLen_prm, aLen_str, aBuildL_some, aBuildS_some, aLoad_1b, aLoad_1d, aLoad_fb, aLoad_fd, aLoad_1p, aLoad_fp, aLoad_ep, aLoad_rr, aLoad_rd, aStore_1, aStore_f, aStore_r, aApp_some, aAppend_nil, aAppend_ref, aSlice_h, aSlice_l, aSlice_lh, bc_draw, kregD_at, aopsD_nil, aopsD_plain, aopsD_guard, kontD_at, contD_at, yesD_at, noD_at, splD_bool, splD_undef, splD_skip, splD_int, splD_tt, splD_ff, splD_str, splD_nil, splD_sl, splD_prm, splD_ref, splD_ptr, splD_rp, splD_ep, splD_pv, splD_agg, splD_tup, splD_clo, gD_tt, gD_tf, gD_ft, gD_ff, gD_ts, gD_fs, slotO_some, addTr_nil, addTr_cons, memQ_nil, memQ_cons, clash_nil, clash_cons, regC_none, regC_nil, regC_cons, regR_nil, regR_cons, Int.toNat_zero, Int.toNat_one, rng0, rng1, rng2, rng3, rng4, SC.take, SC.drop, mp_nil, acond_ct, acond_cf, mp_one0, mp_one1, mp_one2, mp_one3, kcall_one, liveB_row, liveB_box, idx, cont, still, dies, lend, lendA, lendDies, snocs, SC.snoc, SC.app, meet, AV.cells, fillA, List.getD_cons_zero, List.getD_cons_succ, List.set_cons_zero, List.set_cons_succ, List.length_singleton, Nat.le_refl, Nat.lt_irrefl, Nat.reduceLT, Nat.reduceLeDiff, Option.map_some, Option.map_none, List.flatMap_nil, List.flatMap_cons, Nat.zero_add, BEq.rfl, sl3, ty3, un3, sl56, ty56, un56, sl85, ty85, un85, sl83, ty83, un83, sl5, ty5, un5, sl2, ty2, un2, sl21, ty21, un21, sl4, ty4, un4, sl9, un9, sl22, ty22, un22, ty39, sl39, ty33, sl33, inR64, inRu64, inRu32, Try.f54]
  obtain ⟨S, rfl⟩ := Int.eq_ofNat_of_zero_le hp1.1
  refine bc_loopN [(3, 3, .ints .i64 [])] (fun i : Nat => i ≤ 62)
    (fun i => ⟨[(0, .int .i64 S), (3, .ref 0 (elemsF S i).length), (4, .int .i64 i)], [.row 3 (.ints .i64 (elemsF S i))]⟩) (fun i => S / 2 ^ i)
    [0, 3, 4] [0] 0 rfl rfl (by simp [elemsF, St.conv, St.bf, getE, putE, getB, cv, cvL, cvB, idx, still, lifts, liftOne]) (by omega) fun i h1 => ?_
  simp only [kcode_at, kreg_at, bc_skip, bc_seq, bc_cond, bc_block, bc_exit, bc_ret, bc_region, lkX_cons, acond_tmp, aCase_t, aCase_f, aCase_b, afin_nil, cvE_some, resL, resV, resC, cv, cvL, pack, entryE, inPrm, Option.getD_some, acall_clo, add_sp, add_lend, kcall_nil, selOf, selA, inArgs, inA, inL, okA, okL, okBx, okC, outA, outL, outU, outB, deep, deepL, boxIds, AV.bid, List.map_nil, List.map_cons, List.all_nil, List.all_cons, BEq.rfl, Bool.and_true, Bool.true_and, List.append_nil, aops_nil, aops_plain, aops_guard, kont_at, yes_at, no_at, aop_move, aop_assign, aop_pick, aop_alloc, aop_box, aop_build, aop_buildSlice, aop_load, aop_store, aop_nilCheck, aop_binOp, aop_unOp, aop_convert, aop_fieldAddr, aop_indexAddr, aop_slice, aop_extract, aop_makeSlice, aop_len, aop_max, aMax_int, slTy2, SC0, aop_append, aop_call, evalE, getE, putE, getB, setB, St.put, setsB, nth, AV.ofV, AV.blk, AV.bid, AV.one, SC.len, SC.get, List.length_nil, List.length_cons, Nat.reduceEqDiff, Nat.reduceAdd, ↓reduceIte, true_and, and_true, Bool.true_eq_false, Bool.false_eq_true, false_imp_iff, true_imp_iff, decide_eq_true_eq, Bool.not_eq_true', Bool.not_eq_false', decide_eq_false_iff_not, Option.isSome, List.nil_append, List.cons_append, aGuardO_some, aGuard_tt, aGuard_tf, aGuard_ft, aGuard_ff, aGuard_tb, aGuard_fb, aGuard_ts, aGuard_fs, aPick_b, aPick_t, aPick_f, aAlloc_one, aAlloc_flat, aBox_some, aBuild_flat, aInt_add, aBin_add, aInt_sub, aBin_sub, aInt_mul, aBin_mul, aInt_quo, aBin_quo, aInt_rem, aBin_rem, aInt_and, aBin_and, aInt_or, aBin_or, aInt_xor, aBin_xor, aInt_andNot, aBin_andNot, aInt_eql, aBin_eql, aInt_neq, aBin_neq, aInt_lss, aBin_lss, aInt_leq, aBin_leq, aInt_gtr, aBin_gtr, aInt_geq, aBin_geq, aBin_shl, aBin_shr, aShift_shl, aShift_shr, aBin_be1, aBin_bn1, aBin_be2, aBin_bn2, aBin_be3, aBin_bn3, aBin_be4, aBin_bn4, aBin_be5, aBin_bn5, aBin_be6, aBin_bn6, aBin_be7, aBin_bn7, aBin_be8, aBin_bn8, aBin_be9, aBin_bn9, aUn_b, aUn_t, aUn_f, aUn_i, aNil_ptr, aNil_pv, aConv_int, aField_ptr, aField_pv, aIdx_sl, aIdx_prm, aIdx_row, aIdx_drow, aMake_i, aMake_s, aExtr_tup, aLen_ref, aLen_nil, aLen_sl, aLen_prm, aLen_str, aBuildL_some, aBuildS_some, aLoad_1b, aLoad_1d, aLoad_fb, aLoad_fd, aLoad_1p, aLoad_fp, aLoad_ep, aLoad_rr, aLoad_rd, aStore_1, aStore_f, aStore_r, aApp_some, aAppend_nil, aAppend_ref, aSlice_h, aSlice_l, aSlice_lh, bc_draw, kregD_at, aopsD_nil, aopsD_plain, aopsD_guard, kontD_at, contD_at, yesD_at, noD_at, splD_bool, splD_undef, splD_skip, splD_int, splD_tt, splD_ff, splD_str, splD_nil, splD_sl, splD_prm, splD_ref, splD_ptr, splD_rp, splD_ep, splD_pv, splD_agg, splD_tup, splD_clo, gD_tt, gD_tf, gD_ft, gD_ff, gD_ts, gD_fs, slotO_some, addTr_nil, addTr_cons, memQ_nil, memQ_cons, clash_nil, clash_cons, regC_none, regC_nil, regC_cons, regR_nil, regR_cons, Int.toNat_zero, Int.toNat_one, rng0, rng1, rng2, rng3, rng4, SC.take, SC.drop, mp_nil, acond_ct, acond_cf, mp_one0, mp_one1, mp_one2, mp_one3, kcall_one, liveB_row, liveB_box, idx, cont, still, dies, lend, lendA, lendDies, snocs, SC.snoc, SC.app, meet, AV.cells, fillA, List.getD_cons_zero, List.getD_cons_succ, List.set_cons_zero, List.set_cons_succ, List.length_singleton, Nat.le_refl, Nat.lt_irrefl, Nat.reduceLT, Nat.reduceLeDiff, Option.map_some, Option.map_none, List.flatMap_nil, List.flatMap_cons, Nat.zero_add, BEq.rfl, sl3, ty3, un3, sl56, ty56, un56, sl85, ty85, un85, sl83, ty83, un83, sl5, ty5, un5, sl2, ty2, un2, sl21, ty21, un21, sl4, ty4, un4, sl9, un9, sl22, ty22, un22, ty39, sl39, ty33, sl33, inR64, inRu64, inRu32, Int.toNat_natCast]
  have hq : S / 2 ^ i ≤ S := Nat.div_le_self _ _
  have hl2 := elemsF_len (s := S) (n := i)
  have hd := div_next (s := S) (i := i)
  simp only [IntKind.bits]
  have ed : (S : Int) / 2 ^ i = ((S / 2 ^ i : Nat) : Int) := by simp
  rw [ed]
  have ht := elemsF_t (s := S) (n := i)
  have hf := elemsF_f (s := S) (n := i)
  have hlt := elems_lt (s := S) (i := i)
  have hat : S / 2 ^ i = 0 → elemsL S = elemsF S i := fun h => by
    have := elems_at (s := S) (i := i) h h1
    simpa using this
  clear ed
  generalize hqe : S / 2 ^ i = q at *
  have e6 : (q : Int) / 2 = (S : Int) / 2 ^ (i + 1) := by
    have := congrArg (fun n : Nat => (n : Int)) hd
    simpa using this.symm
  have hb : band .i64 (q : Int) 1 = (q : Int) % 2 := band_one (by omega)
  rw [hb]
  refine ⟨by omega, by omega, fun h0 => ?_, fun h0 => ?_⟩
  · have hi := hlt (by omega) (by omega)
    refine ⟨by omega, by omega, fun h1 => ⟨by omega, by omega, klp_of (i + 1) ?_ (by omega) (by simp only [hqe, hd]; omega)⟩, fun h1 => ⟨by omega, klp_of (i + 1) ?_ (by omega) (by simp only [hqe, hd]; omega)⟩⟩
    · rw [ht (by omega)]
      simp [St.conv, St.bf, getE, putE, getB, cv, cvL, cvB, idx, still, pack, lifts, liftOne, cellsOfB, setB]
    · rw [hf (by omega)]
      simp [St.conv, St.bf, getE, putE, getB, cv, cvL, cvB, idx, still, pack, lifts, liftOne, cellsOfB, setB]
  · rw [hat (by omega)]
    exact afin_of [0] rfl rfl (by simp [St.conv, St.bf, getE, putE, getB, cv, cvL, cvB, idx, still, pack, lifts, liftOne, cellsOfB, setB]) (by simp [St.conv, St.bf, getE, putE, getB, cv, cvL, cvB, idx, still, pack, lifts, liftOne, cellsOfB, setB])
def lend_impl_elementsOf : List Nat := []
def sp_impl_elementsOf : List AV → List Bx → (AV → List Bx → Prop) → Prop
  | [.int .i64 s], [], K => (0 ≤ s ∧ s < 2 ^ 62) ∧ K (.ref 0 (elemsL s).length) [.row 3 (.ints .i64 (elemsL s))]
  | _, _, _ => False
theorem at_impl_elementsOf {s : Int} {K : AV → List Bx → Prop} : sp_impl_elementsOf [.int .i64 s] [] K = ((0 ≤ s ∧ s < 2 ^ 62) ∧ K (.ref 0 (elemsL s).length) [.row 3 (.ints .i64 (elemsL s))]) := id rfl
theorem ok_impl_elementsOf : ∀ args giv K, sp_impl_elementsOf args giv K → ∃ r outs, ARuns Try.prog 54 args giv r outs ∧ K r outs := by
  intro args giv K hk
  unfold sp_impl_elementsOf at hk
  split at hk
  · obtain ⟨hp1, hk⟩ := hk; exact ⟨_, _, runs_impl_elementsOf _ hp1, hk⟩
  · exact hk.elim
def oc1 (x : Int) : Int := band .u64 (x / 2 ^ (1 : Nat)) 6148914691236517205 + band .u64 x 6148914691236517205
def oc2 (x : Int) : Int := band .u64 (x / 2 ^ Int.toNat 2) 3689348814741910323 + band .u64 x 3689348814741910323
def oc3 (x : Int) : Int := x / 2 ^ Int.toNat 4 + x
def oc4 (x : Int) : Int := x + x / 2 ^ Int.toNat 8
def oc5 (x : Int) : Int := x + x / 2 ^ Int.toNat 16
def oc6 (x : Int) : Int := x + x / 2 ^ Int.toNat 32
theorem oc1_eq {x : Int} : oc1 x = band .u64 (x / 2 ^ (1 : Nat)) 6148914691236517205 + band .u64 x 6148914691236517205 := rfl
theorem oc2_eq {x : Int} : oc2 x = band .u64 (x / 2 ^ Int.toNat 2) 3689348814741910323 + band .u64 x 3689348814741910323 := rfl
theorem oc3_eq {x : Int} : oc3 x = x / 2 ^ Int.toNat 4 + x := rfl
theorem oc4_eq {x : Int} : oc4 x = x + x / 2 ^ Int.toNat 8 := rfl
theorem oc5_eq {x : Int} : oc5 x = x + x / 2 ^ Int.toNat 16 := rfl
theorem oc6_eq {x : Int} : oc6 x = x + x / 2 ^ Int.toNat 32 := rfl
def inU (x : Int) : Bool := decide (0 ≤ x) && decide (x < 9223372036854775807)
theorem inU_eq {x : Int} : (inU x = true) = (0 ≤ x ∧ x < 9223372036854775807) := by simp [inU]
def ocB (n : Nat) : Bool :=
  let a1 := oc1 n
  let a2 := oc2 a1
  let a3 := oc3 a2
  let b3 := band .u64 a3 1085102592571150095
  let a4 := oc4 b3
  let a5 := oc5 a4
  let a6 := oc6 a5
  inU a1 && inU a2 && inU a3 && inU b3 && inU a4 && inU a5 && inU a6 && decide (band .i64 a6 127 = pop n)
theorem oc_all : ∀ n, n < 1024 → ocB n = true := by decide +kernel

theorem is_math_bits_OnesCount64 : FnIs Try.prog 103 35 [.tmp 2] (Try.f103.body.getD .skip) := ⟨⟨Try.f103, by kernel_rfl, by kernel_rfl, by kernel_rfl, by kernel_rfl⟩, by kernel_rfl, by kernel_rfl⟩
def G_math_bits_OnesCount64 : Gm := Gm.none
theorem G_math_bits_OnesCount64_ok : G_math_bits_OnesCount64.ok Try.prog := Gm.none_ok
set_option maxHeartbeats 1000000 in
set_option maxRecDepth 100000 in
theorem runs_math_bits_OnesCount64 (s : Int) (hp1 : 0 ≤ s ∧ s < 1024) : ARuns Try.prog 103 [.int .u64 s] [] (.int .i64 (popI s)) [] := by
  refine ARuns_bc G_math_bits_OnesCount64_ok is_math_bits_OnesCount64 (by simp) fun hl hlB => ?_
  simp only [kcode_at, kreg_at, bc_skip, bc_seq, bc_cond, bc_block, bc_exit, bc_ret, bc_region, lkX_cons, acond_tmp, aCase_t, aCase_f, aCase_b, afin_nil, cvE_some, resL, resV, resC, cv, cvL, pack, entryE, inPrm, Option.getD_some, acall_clo, add_sp, add_lend, kcall_nil, selOf, selA, inArgs, inA, inL, okA, okL, okBx, okC, outA, outL, outU, outB, deep, deepL, boxIds, AV.bid, List.map_nil, List.map_cons, List.all_nil, List.all_cons, BEq.rfl, Bool.and_true, Bool.true_and, List.append_nil, aops_nil, aops_plain, aops_guard, kont_at, yes_at, no_at, aop_move, aop_assign, aop_pick, aop_alloc, aop_box, aop_build, aop_buildSlice, aop_load, aop_store, aop_nilCheck, aop_binOp, aop_unOp, aop_convert, aop_fieldAddr, aop_indexAddr, aop_slice, aop_extract, aop_makeSlice, aop_len, aop_max, aMax_int, slTy2, SC0, aop_append, aop_call, evalE, getE, putE, getB, setB, St.put, setsB, nth, AV.ofV, AV.blk, AV.bid, AV.one, SC.len, SC.get, List.length_nil, List.length_cons, Nat.reduceEqDiff, Nat.reduceAdd, ↓reduceIte, true_and, and_true, Bool.true_eq_false, Bool.false_eq_true, false_imp_iff, true_imp_iff, decide_eq_true_eq, Bool.not_eq_true', Bool.not_eq_false', decide_eq_false_iff_not, Option.isSome, List.nil_append, List.cons_append, aGuardO_some, aGuard_tt, aGuard_tf, aGuard_ft, aGuard_ff, aGuard_tb, aGuard_fb, aGuard_ts, aGuard_fs, aPick_b, aPick_t, aPick_f, aAlloc_one, aAlloc_flat, aBox_some, aBuild_flat, aInt_add, aBin_add, aInt_sub, aBin_sub, aInt_mul, aBin_mul, aInt_quo, aBin_quo, aInt_rem, aBin_rem, aInt_and, aBin_and, aInt_or, aBin_or, aInt_xor, aBin_xor, aInt_andNot, aBin_andNot, aInt_eql, aBin_eql, aInt_neq, aBin_neq, aInt_lss, aBin_lss, aInt_leq, aBin_leq, aInt_gtr, aBin_gtr, aInt_geq, aBin_geq, aBin_shl, aBin_shr, aShift_shl, aShift_shr, aBin_be1, aBin_bn1, aBin_be2, aBin_bn2, aBin_be3, aBin_bn3, aBin_be4, aBin_bn4, aBin_be5, aBin_bn5, aBin_be6, aBin_bn6, aBin_be7, aBin_bn7, aBin_be8, aBin_bn8, aBin_be9, aBin_bn9, aUn_b, aUn_t, aUn_f, aUn_i, aNil_ptr, aNil_pv, aConv_int, aField_ptr, aField_pv, aIdx_sl, aIdx_prm, aIdx_row, aIdx_drow, aMake_i, aMake_s, aExtr_tup, aLen_ref, aLen_nil, aLen_sl, aLen_prm, aLen_str, aBuildL_some, aBuildS_some, aLoad_1b, aLoad_1d, aLoad_fb, aLoad_fd, aLoad_1p, aLoad_fp, aLoad_ep, aLoad_rr, aLoad_rd, aStore_1, aStore_f, aStore_r, aApp_some, aAppend_nil, aAppend_ref, aSlice_h, aSlice_l, aSlice_lh, bc_draw, kregD_at, aopsD_nil, aopsD_plain, aopsD_guard, kontD_at, contD_at, yesD_at, noD_at, splD_bool, splD_undef, splD_skip, splD_int, splD_tt, splD_ff, splD_str, splD_nil, splD_sl, splD_prm, splD_ref, splD_ptr, splD_rp, splD_ep, splD_pv, splD_agg, splD_tup, splD_clo, gD_tt, gD_tf, gD_ft, gD_ff, gD_ts, gD_fs, slotO_some, addTr_nil, addTr_cons, memQ_nil, memQ_cons, clash_nil, clash_cons, regC_none, regC_nil, regC_cons, regR_nil, regR_cons, Int.toNat_zero, Int.toNat_one, rng0, rng1, rng2, rng3, rng4, SC.take, SC.drop, mp_nil, acond_ct, acond_cf, mp_one0, mp_one1, mp_one2, mp_one3, kcall_one, liveB_row, liveB_box, idx, cont, still, dies, lend, lendA, lendDies, snocs, SC.snoc, SC.app, meet, AV.cells, fillA, List.getD_cons_zero, List.getD_cons_succ, List.set_cons_zero, List.set_cons_succ, List.length_singleton, Nat.le_refl, Nat.lt_irrefl, Nat.reduceLT, Nat.reduceLeDiff, Option.map_some, Option.map_none, List.flatMap_nil, List.flatMap_cons, Nat.zero_add, BEq.rfl, sl3, ty3, un3, sl56, ty56, un56, sl85, ty85, un85, sl83, ty83, un83, sl5, ty5, un5, sl2, ty2, un2, sl21, ty21, un21, sl4, ty4, un4, sl9, un9, sl22, ty22, un22, ty39, sl39, ty33, sl33, inR64, inRu64, inRu32, Try.f103]
  obtain ⟨n, rfl⟩ := Int.eq_ofNat_of_zero_le hp1.1
  have h := oc_all n (by omega)
  simp only [ocB, Bool.and_eq_true, inU_eq, decide_eq_true_eq] at h
  simp only [← oc1_eq, ← oc2_eq, ← oc3_eq, ← oc4_eq, ← oc5_eq, ← oc6_eq, IntKind.bits]
  have e : popI n = pop n := by simp [popI]
  rw [e, ← h.2]
  (repeat' (first | apply And.intro | intro _)) <;> try (first | omega | trivial)
def lend_math_bits_OnesCount64 : List Nat := []
def sp_math_bits_OnesCount64 : List AV → List Bx → (AV → List Bx → Prop) → Prop
  | [.int .u64 s], [], K => (0 ≤ s ∧ s < 1024) ∧ K (.int .i64 (popI s)) []
  | _, _, _ => False
theorem at_math_bits_OnesCount64 {s : Int} {K : AV → List Bx → Prop} : sp_math_bits_OnesCount64 [.int .u64 s] [] K = ((0 ≤ s ∧ s < 1024) ∧ K (.int .i64 (popI s)) []) := id rfl
theorem ok_math_bits_OnesCount64 : ∀ args giv K, sp_math_bits_OnesCount64 args giv K → ∃ r outs, ARuns Try.prog 103 args giv r outs ∧ K r outs := by
  intro args giv K hk
  unfold sp_math_bits_OnesCount64 at hk
  split at hk
  · obtain ⟨hp1, hk⟩ := hk; exact ⟨_, _, runs_math_bits_OnesCount64 _ hp1, hk⟩
  · exact hk.elim
theorem is_math_bits_OnesCount : FnIs Try.prog 89 8 [.tmp 2] (Try.f89.body.getD .skip) := ⟨⟨Try.f89, by kernel_rfl, by kernel_rfl, by kernel_rfl, by kernel_rfl⟩, by kernel_rfl, by kernel_rfl⟩
def G_math_bits_OnesCount : Gm := (Gm.none.add 103 lend_math_bits_OnesCount64 sp_math_bits_OnesCount64)
theorem G_math_bits_OnesCount_ok : G_math_bits_OnesCount.ok Try.prog := (Gm.add_ok Gm.none_ok ok_math_bits_OnesCount64)
theorem gs_math_bits_OnesCount_103 : G_math_bits_OnesCount.sp 103 = sp_math_bits_OnesCount64 ∧ G_math_bits_OnesCount.lend 103 = lend_math_bits_OnesCount64 := ⟨rfl, rfl⟩
set_option maxHeartbeats 1000000 in
set_option maxRecDepth 100000 in
theorem runs_math_bits_OnesCount (s : Int) (hp1 : 0 ≤ s ∧ s < 1024) : ARuns Try.prog 89 [.int .u64 s] [] (.int .i64 (popI s)) [] := by
  refine ARuns_bc G_math_bits_OnesCount_ok is_math_bits_OnesCount (by simp) fun hl hlB => ?_
  simp only [kcode_at, kreg_at, bc_skip, bc_seq, bc_cond, bc_block, bc_exit, bc_ret, bc_region, lkX_cons, acond_tmp, aCase_t, aCase_f, aCase_b, afin_nil, cvE_some, resL, resV, resC, cv, cvL, pack, entryE, inPrm, Option.getD_some, acall_clo, add_sp, add_lend, kcall_nil, selOf, selA, inArgs, inA, inL, okA, okL, okBx, okC, outA, outL, outU, outB, deep, deepL, boxIds, AV.bid, List.map_nil, List.map_cons, List.all_nil, List.all_cons, BEq.rfl, Bool.and_true, Bool.true_and, List.append_nil, aops_nil, aops_plain, aops_guard, kont_at, yes_at, no_at, aop_move, aop_assign, aop_pick, aop_alloc, aop_box, aop_build, aop_buildSlice, aop_load, aop_store, aop_nilCheck, aop_binOp, aop_unOp, aop_convert, aop_fieldAddr, aop_indexAddr, aop_slice, aop_extract, aop_makeSlice, aop_len, aop_max, aMax_int, slTy2, SC0, aop_append, aop_call, evalE, getE, putE, getB, setB, St.put, setsB, nth, AV.ofV, AV.blk, AV.bid, AV.one, SC.len, SC.get, List.length_nil, List.length_cons, Nat.reduceEqDiff, Nat.reduceAdd, ↓reduceIte, true_and, and_true, Bool.true_eq_false, Bool.false_eq_true, false_imp_iff, true_imp_iff, decide_eq_true_eq, Bool.not_eq_true', Bool.not_eq_false', decide_eq_false_iff_not, Option.isSome, List.nil_append, List.cons_append, aGuardO_some, aGuard_tt, aGuard_tf, aGuard_ft, aGuard_ff, aGuard_tb, aGuard_fb, aGuard_ts, aGuard_fs, aPick_b, aPick_t, aPick_f, aAlloc_one, aAlloc_flat, aBox_some, aBuild_flat, aInt_add, aBin_add, aInt_sub, aBin_sub, aInt_mul, aBin_mul, aInt_quo, aBin_quo, aInt_rem, aBin_rem, aInt_and, aBin_and, aInt_or, aBin_or, aInt_xor, aBin_xor, aInt_andNot, aBin_andNot, aInt_eql, aBin_eql, aInt_neq, aBin_neq, aInt_lss, aBin_lss, aInt_leq, aBin_leq, aInt_gtr, aBin_gtr, aInt_geq, aBin_geq, aBin_shl, aBin_shr, aShift_shl, aShift_shr, aBin_be1, aBin_bn1, aBin_be2, aBin_bn2, aBin_be3, aBin_bn3, aBin_be4, aBin_bn4, aBin_be5, aBin_bn5, aBin_be6, aBin_bn6, aBin_be7, aBin_bn7, aBin_be8, aBin_bn8, aBin_be9, aBin_bn9, aUn_b, aUn_t, aUn_f, aUn_i, aNil_ptr, aNil_pv, aConv_int, aField_ptr, aField_pv, aIdx_sl, aIdx_prm, aIdx_row, aIdx_drow, aMake_i, aMake_s, aExtr_tup, aLen_ref, aLen_nil, aLen_sl, aLen_prm, aLen_str, aBuildL_some, aBuildS_some, aLoad_1b, aLoad_1d, aLoad_fb, aLoad_fd, aLoad_1p, aLoad_fp, aLoad_ep, aLoad_rr, aLoad_rd, aStore_1, aStore_f, aStore_r, aApp_some, aAppend_nil, aAppend_ref, aSlice_h, aSlice_l, aSlice_lh, bc_draw, kregD_at, aopsD_nil, aopsD_plain, aopsD_guard, kontD_at, contD_at, yesD_at, noD_at, splD_bool, splD_undef, splD_skip, splD_int, splD_tt, splD_ff, splD_str, splD_nil, splD_sl, splD_prm, splD_ref, splD_ptr, splD_rp, splD_ep, splD_pv, splD_agg, splD_tup, splD_clo, gD_tt, gD_tf, gD_ft, gD_ff, gD_ts, gD_fs, slotO_some, addTr_nil, addTr_cons, memQ_nil, memQ_cons, clash_nil, clash_cons, regC_none, regC_nil, regC_cons, regR_nil, regR_cons, Int.toNat_zero, Int.toNat_one, rng0, rng1, rng2, rng3, rng4, SC.take, SC.drop, mp_nil, acond_ct, acond_cf, mp_one0, mp_one1, mp_one2, mp_one3, kcall_one, liveB_row, liveB_box, idx, cont, still, dies, lend, lendA, lendDies, snocs, SC.snoc, SC.app, meet, AV.cells, fillA, List.getD_cons_zero, List.getD_cons_succ, List.set_cons_zero, List.set_cons_succ, List.length_singleton, Nat.le_refl, Nat.lt_irrefl, Nat.reduceLT, Nat.reduceLeDiff, Option.map_some, Option.map_none, List.flatMap_nil, List.flatMap_cons, Nat.zero_add, BEq.rfl, sl3, ty3, un3, sl56, ty56, un56, sl85, ty85, un85, sl83, ty83, un83, sl5, ty5, un5, sl2, ty2, un2, sl21, ty21, un21, sl4, ty4, un4, sl9, un9, sl22, ty22, un22, ty39, sl39, ty33, sl33, inR64, inRu64, inRu32, gs_math_bits_OnesCount_103, at_math_bits_OnesCount64, lend_math_bits_OnesCount64, Try.f89]
  exact hp1
def lend_math_bits_OnesCount : List Nat := []
def sp_math_bits_OnesCount : List AV → List Bx → (AV → List Bx → Prop) → Prop
  | [.int .u64 s], [], K => (0 ≤ s ∧ s < 1024) ∧ K (.int .i64 (popI s)) []
  | _, _, _ => False
theorem at_math_bits_OnesCount {s : Int} {K : AV → List Bx → Prop} : sp_math_bits_OnesCount [.int .u64 s] [] K = ((0 ≤ s ∧ s < 1024) ∧ K (.int .i64 (popI s)) []) := id rfl
theorem ok_math_bits_OnesCount : ∀ args giv K, sp_math_bits_OnesCount args giv K → ∃ r outs, ARuns Try.prog 89 args giv r outs ∧ K r outs := by
  intro args giv K hk
  unfold sp_math_bits_OnesCount at hk
  split at hk
  · obtain ⟨hp1, hk⟩ := hk; exact ⟨_, _, runs_math_bits_OnesCount _ hp1, hk⟩
  · exact hk.elim
theorem is_impl_sizeOf : FnIs Try.prog 63 6 [.tmp 2] (Try.f63.body.getD .skip) := ⟨⟨Try.f63, by kernel_rfl, by kernel_rfl, by kernel_rfl, by kernel_rfl⟩, by kernel_rfl, by kernel_rfl⟩
def G_impl_sizeOf : Gm := (Gm.none.add 89 lend_math_bits_OnesCount sp_math_bits_OnesCount)
theorem G_impl_sizeOf_ok : G_impl_sizeOf.ok Try.prog := (Gm.add_ok Gm.none_ok ok_math_bits_OnesCount)
theorem gs_impl_sizeOf_89 : G_impl_sizeOf.sp 89 = sp_math_bits_OnesCount ∧ G_impl_sizeOf.lend 89 = lend_math_bits_OnesCount := ⟨rfl, rfl⟩
set_option maxHeartbeats 1000000 in
set_option maxRecDepth 100000 in
theorem runs_impl_sizeOf (s : Int) (hp1 : 0 ≤ s ∧ s < 1024) : ARuns Try.prog 63 [.int .i64 s] [] (.int .i64 (popI s)) [] := by
  refine ARuns_bc G_impl_sizeOf_ok is_impl_sizeOf (by simp) fun hl hlB => ?_
  simp only [kcode_at, kreg_at, bc_skip, bc_seq, bc_cond, bc_block, bc_exit, bc_ret, bc_region, lkX_cons, acond_tmp, aCase_t, aCase_f, aCase_b, afin_nil, cvE_some, resL, resV, resC, cv, cvL, pack, entryE, inPrm, Option.getD_some, acall_clo, add_sp, add_lend, kcall_nil, selOf, selA, inArgs, inA, inL, okA, okL, okBx, okC, outA, outL, outU, outB, deep, deepL, boxIds, AV.bid, List.map_nil, List.map_cons, List.all_nil, List.all_cons, BEq.rfl, Bool.and_true, Bool.true_and, List.append_nil, aops_nil, aops_plain, aops_guard, kont_at, yes_at, no_at, aop_move, aop_assign, aop_pick, aop_alloc, aop_box, aop_build, aop_buildSlice, aop_load, aop_store, aop_nilCheck, aop_binOp, aop_unOp, aop_convert, aop_fieldAddr, aop_indexAddr, aop_slice, aop_extract, aop_makeSlice, aop_len, aop_max, aMax_int, slTy2, SC0, aop_append, aop_call, evalE, getE, putE, getB, setB, St.put, setsB, nth, AV.ofV, AV.blk, AV.bid, AV.one, SC.len, SC.get, List.length_nil, List.length_cons, Nat.reduceEqDiff, Nat.reduceAdd, ↓reduceIte, true_and, and_true, Bool.true_eq_false, Bool.false_eq_true, false_imp_iff, true_imp_iff, decide_eq_true_eq, Bool.not_eq_true', Bool.not_eq_false', decide_eq_false_iff_not, Option.isSome, List.nil_append, List.cons_append, aGuardO_some, aGuard_tt, aGuard_tf, aGuard_ft, aGuard_ff, aGuard_tb, aGuard_fb, aGuard_ts, aGuard_fs, aPick_b, aPick_t, aPick_f, aAlloc_one, aAlloc_flat, aBox_some, aBuild_flat, aInt_add, aBin_add, aInt_sub, aBin_sub, aInt_mul, aBin_mul, aInt_quo, aBin_quo, aInt_rem, aBin_rem, aInt_and, aBin_and, aInt_or, aBin_or, aInt_xor, aBin_xor, aInt_andNot, aBin_andNot, aInt_eql, aBin_eql, aInt_neq, aBin_neq, aInt_lss, aBin_lss, aInt_leq, aBin_leq, aInt_gtr, aBin_gtr, aInt_geq, aBin_geq, aBin_shl, aBin_shr, aShift_shl, aShift_shr, aBin_be1, aBin_bn1, aBin_be2, aBin_bn2, aBin_be3, aBin_bn3, aBin_be4, aBin_bn4, aBin_be5, aBin_bn5, aBin_be6, aBin_bn6, aBin_be7, aBin_bn7, aBin_be8, aBin_bn8, aBin_be9, aBin_bn9, aUn_b, aUn_t, aUn_f, aUn_i, aNil_ptr, aNil_pv, aConv_int, aField_ptr, aField_pv, aIdx_sl, aIdx_prm, aIdx_row, aIdx_drow, aMake_i, aMake_s, aExtr_tup, aLen_ref, aLen_nil, aLen_sl, aLen_prm, aLen_str, aBuildL_some, aBuildS_some, aLoad_1b, aLoad_1d, aLoad_fb, aLoad_fd, aLoad_1p, aLoad_fp, aLoad_ep, aLoad_rr, aLoad_rd, aStore_1, aStore_f, aStore_r, aApp_some, aAppend_nil, aAppend_ref, aSlice_h, aSlice_l, aSlice_lh, bc_draw, kregD_at, aopsD_nil, aopsD_plain, aopsD_guard, kontD_at, contD_at, yesD_at, noD_at, splD_bool, splD_undef, splD_skip, splD_int, splD_tt, splD_ff, splD_str, splD_nil, splD_sl, splD_prm, splD_ref, splD_ptr, splD_rp, splD_ep, splD_pv, splD_agg, splD_tup, splD_clo, gD_tt, gD_tf, gD_ft, gD_ff, gD_ts, gD_fs, slotO_some, addTr_nil, addTr_cons, memQ_nil, memQ_cons, clash_nil, clash_cons, regC_none, regC_nil, regC_cons, regR_nil, regR_cons, Int.toNat_zero, Int.toNat_one, rng0, rng1, rng2, rng3, rng4, SC.take, SC.drop, mp_nil, acond_ct, acond_cf, mp_one0, mp_one1, mp_one2, mp_one3, kcall_one, liveB_row, liveB_box, idx, cont, still, dies, lend, lendA, lendDies, snocs, SC.snoc, SC.app, meet, AV.cells, fillA, List.getD_cons_zero, List.getD_cons_succ, List.set_cons_zero, List.set_cons_succ, List.length_singleton, Nat.le_refl, Nat.lt_irrefl, Nat.reduceLT, Nat.reduceLeDiff, Option.map_some, Option.map_none, List.flatMap_nil, List.flatMap_cons, Nat.zero_add, BEq.rfl, sl3, ty3, un3, sl56, ty56, un56, sl85, ty85, un85, sl83, ty83, un83, sl5, ty5, un5, sl2, ty2, un2, sl21, ty21, un21, sl4, ty4, un4, sl9, un9, sl22, ty22, un22, ty39, sl39, ty33, sl33, inR64, inRu64, inRu32, gs_impl_sizeOf_89, at_math_bits_OnesCount, lend_math_bits_OnesCount, Try.f63]
  (repeat' (first | apply And.intro | intro _)) <;> try (first | omega | trivial)
def lend_impl_sizeOf : List Nat := []
def sp_impl_sizeOf : List AV → List Bx → (AV → List Bx → Prop) → Prop
  | [.int .i64 s], [], K => (0 ≤ s ∧ s < 1024) ∧ K (.int .i64 (popI s)) []
  | _, _, _ => False
theorem at_impl_sizeOf {s : Int} {K : AV → List Bx → Prop} : sp_impl_sizeOf [.int .i64 s] [] K = ((0 ≤ s ∧ s < 1024) ∧ K (.int .i64 (popI s)) []) := id rfl
theorem ok_impl_sizeOf : ∀ args giv K, sp_impl_sizeOf args giv K → ∃ r outs, ARuns Try.prog 63 args giv r outs ∧ K r outs := by
  intro args giv K hk
  unfold sp_impl_sizeOf at hk
  split at hk
  · obtain ⟨hp1, hk⟩ := hk; exact ⟨_, _, runs_impl_sizeOf _ hp1, hk⟩
  · exact hk.elim
theorem is_impl_lackOf : FnIs Try.prog 74 30 [.tmp 4] (Try.f74.body.getD .skip) := ⟨⟨Try.f74, by kernel_rfl, by kernel_rfl, by kernel_rfl, by kernel_rfl⟩, by kernel_rfl, by kernel_rfl⟩
def G_impl_lackOf : Gm := (Gm.none.add 63 lend_impl_sizeOf sp_impl_sizeOf)
theorem G_impl_lackOf_ok : G_impl_lackOf.ok Try.prog := (Gm.add_ok Gm.none_ok ok_impl_sizeOf)
theorem gs_impl_lackOf_63 : G_impl_lackOf.sp 63 = sp_impl_sizeOf ∧ G_impl_lackOf.lend 63 = lend_impl_sizeOf := ⟨rfl, rfl⟩
set_option maxHeartbeats 1000000 in
set_option maxRecDepth 100000 in
theorem runs_impl_lackOf (l : List Int) (code : Int) (hp1 : l.length ≤ 6) (hp2 : ∀ i, i < l.length → 0 ≤ l.getD i 0 ∧ l.getD i 0 ≤ 63) (hp3 : 0 ≤ code ∧ code < 1024) : ARuns Try.prog 74 [.sl none (.ints .i64 l), .int .i64 code] [] (.int .i64 (lackI l code)) [] := by
  refine ARuns_bc G_impl_lackOf_ok is_impl_lackOf (by simp) fun hl hlB => ?_
  simp only [kcode_at, kreg_at, bc_skip, bc_seq, bc_cond, bc_block, bc_exit, bc_ret, bc_region, lkX_cons, acond_tmp, aCase_t, aCase_f, aCase_b, afin_nil, cvE_some, resL, resV, resC, cv, cvL, pack, entryE, inPrm, Option.getD_some, acall_clo, add_sp, add_lend, kcall_nil, selOf, selA, inArgs, inA, inL, okA, okL, okBx, okC, outA, outL, outU, outB, deep, deepL, boxIds, AV.bid, List.map_nil, List.map_cons, List.all_nil, List.all_cons, BEq.rfl, Bool.and_true, Bool.true_and, List.append_nil, aops_nil, aops_plain, aops_guard, kont_at, yes_at, no_at, aop_move, aop_assign, aop_pick, aop_alloc, aop_box, aop_build, aop_buildSlice, aop_load, aop_store, aop_nilCheck, aop_binOp, aop_unOp, aop_convert, aop_fieldAddr, aop_indexAddr, aop_slice, aop_extract, aop_makeSlice, aop_len, aop_max, aMax_int, slTy2, SC0, aop_append, aop_call, evalE, getE, putE, getB, setB, St.put, setsB, nth, AV.ofV, AV.blk, AV.bid, AV.one, SC.len, SC.get, List.length_nil, List.length_cons, Nat.reduceEqDiff, Nat.reduceAdd, ↓reduceIte, true_and, and_true, Bool.true_eq_false, Bool.false_eq_true, false_imp_iff, true_imp_iff, decide_eq_true_eq, Bool.not_eq_true', Bool.not_eq_false', decide_eq_false_iff_not, Option.isSome, List.nil_append, List.cons_append, aGuardO_some, aGuard_tt, aGuard_tf, aGuard_ft, aGuard_ff, aGuard_tb, aGuard_fb, aGuard_ts, aGuard_fs, aPick_b, aPick_t, aPick_f, aAlloc_one, aAlloc_flat, aBox_some, aBuild_flat, aInt_add, aBin_add, aInt_sub, aBin_sub, aInt_mul, aBin_mul, aInt_quo, aBin_quo, aInt_rem, aBin_rem, aInt_and, aBin_and, aInt_or, aBin_or, aInt_xor, aBin_xor, aInt_andNot, aBin_andNot, aInt_eql, aBin_eql, aInt_neq, aBin_neq, aInt_lss, aBin_lss, aInt_leq, aBin_leq, aInt_gtr, aBin_gtr, aInt_geq, aBin_geq, aBin_shl, aBin_shr, aShift_shl, aShift_shr, aBin_be1, aBin_bn1, aBin_be2, aBin_bn2, aBin_be3, aBin_bn3, aBin_be4, aBin_bn4, aBin_be5, aBin_bn5, aBin_be6, aBin_bn6, aBin_be7, aBin_bn7, aBin_be8, aBin_bn8, aBin_be9, aBin_bn9, aUn_b, aUn_t, aUn_f, aUn_i, aNil_ptr, aNil_pv, aConv_int, aField_ptr, aField_pv, aIdx_sl, aIdx_prm, aIdx_row, aIdx_drow, aMake_i, aMake_s, aExtr_tup, aLen_ref, aLen_nil, aLen_sl, aLen_prm, aLen_str, aBuildL_some, aBuildS_some, aLoad_1b, aLoad_1d, aLoad_fb, aLoad_fd, aLoad_1p, aLoad_fp, aLoad_ep, aLoad_rr, aLoad_rd, aStore_1, aStore_f, aStore_r, aApp_some, aAppend_nil, aAppend_ref, aSlice_h, aSlice_l, aSlice_lh, bc_draw, kregD_at, aopsD_nil, aopsD_plain, aopsD_guard, kontD_at, contD_at, yesD_at, noD_at, splD_bool, splD_undef, splD_skip, splD_int, splD_tt, splD_ff, splD_str, splD_nil, splD_sl, splD_prm, splD_ref, splD_ptr, splD_rp, splD_ep, splD_pv, splD_agg, splD_tup, splD_clo, gD_tt, gD_tf, gD_ft, gD_ff, gD_ts, gD_fs, slotO_some, addTr_nil, addTr_cons, memQ_nil, memQ_cons, clash_nil, clash_cons, regC_none, regC_nil, regC_cons, regR_nil, regR_cons, Int.toNat_zero, Int.toNat_one, rng0, rng1, rng2, rng3, rng4, SC.take, SC.drop, mp_nil, acond_ct, acond_cf, mp_one0, mp_one1, mp_one2, mp_one3, kcall_one, liveB_row, liveB_box, idx, cont, still, dies, lend, lendA, lendDies, snocs, SC.snoc, SC.app, meet, AV.cells, fillA, List.getD_cons_zero, List.getD_cons_succ, List.set_cons_zero, List.set_cons_succ, List.length_singleton, Nat.le_refl, Nat.lt_irrefl, Nat.reduceLT, Nat.reduceLeDiff, Option.map_some, Option.map_none, List.flatMap_nil, List.flatMap_cons, Nat.zero_add, BEq.rfl, sl3, ty3, un3, sl56, ty56, un56, sl85, ty85, un85, sl83, ty83, un83, sl5, ty5, un5, sl2, ty2, un2, sl21, ty21, un21, sl4, ty4, un4, sl9, un9, sl22, ty22, un22, ty39, sl39, ty33, sl33, inR64, inRu64, inRu32, gs_impl_lackOf_63, at_impl_sizeOf, lend_impl_sizeOf, Try.f74]
  refine bc_loop (fun i : Nat => i ≤ l.length)
    (fun i => ⟨[(1, .int .i64 code), (5, .int .i64 (unionF l code i)), (8, .prm 0 (.ints .i64 l)), (9, .int .i64 l.length), (10, .int .i64 i)], []⟩) (fun i => l.length - i)
    [1, 5, 8, 9, 10] [] 0 rfl (by simp [St.conv, St.bf, getE, putE, getB, cv, cvL, cvB, idx, still, pack, lifts, liftOne, cellsOfB, setB]; rfl) (by simp) fun i h1 => ?_
  simp only [kcode_at, kreg_at, bc_skip, bc_seq, bc_cond, bc_block, bc_exit, bc_ret, bc_region, lkX_cons, acond_tmp, aCase_t, aCase_f, aCase_b, afin_nil, cvE_some, resL, resV, resC, cv, cvL, pack, entryE, inPrm, Option.getD_some, acall_clo, add_sp, add_lend, kcall_nil, selOf, selA, inArgs, inA, inL, okA, okL, okBx, okC, outA, outL, outU, outB, deep, deepL, boxIds, AV.bid, List.map_nil, List.map_cons, List.all_nil, List.all_cons, BEq.rfl, Bool.and_true, Bool.true_and, List.append_nil, aops_nil, aops_plain, aops_guard, kont_at, yes_at, no_at, aop_move, aop_assign, aop_pick, aop_alloc, aop_box, aop_build, aop_buildSlice, aop_load, aop_store, aop_nilCheck, aop_binOp, aop_unOp, aop_convert, aop_fieldAddr, aop_indexAddr, aop_slice, aop_extract, aop_makeSlice, aop_len, aop_max, aMax_int, slTy2, SC0, aop_append, aop_call, evalE, getE, putE, getB, setB, St.put, setsB, nth, AV.ofV, AV.blk, AV.bid, AV.one, SC.len, SC.get, List.length_nil, List.length_cons, Nat.reduceEqDiff, Nat.reduceAdd, ↓reduceIte, true_and, and_true, Bool.true_eq_false, Bool.false_eq_true, false_imp_iff, true_imp_iff, decide_eq_true_eq, Bool.not_eq_true', Bool.not_eq_false', decide_eq_false_iff_not, Option.isSome, List.nil_append, List.cons_append, aGuardO_some, aGuard_tt, aGuard_tf, aGuard_ft, aGuard_ff, aGuard_tb, aGuard_fb, aGuard_ts, aGuard_fs, aPick_b, aPick_t, aPick_f, aAlloc_one, aAlloc_flat, aBox_some, aBuild_flat, aInt_add, aBin_add, aInt_sub, aBin_sub, aInt_mul, aBin_mul, aInt_quo, aBin_quo, aInt_rem, aBin_rem, aInt_and, aBin_and, aInt_or, aBin_or, aInt_xor, aBin_xor, aInt_andNot, aBin_andNot, aInt_eql, aBin_eql, aInt_neq, aBin_neq, aInt_lss, aBin_lss, aInt_leq, aBin_leq, aInt_gtr, aBin_gtr, aInt_geq, aBin_geq, aBin_shl, aBin_shr, aShift_shl, aShift_shr, aBin_be1, aBin_bn1, aBin_be2, aBin_bn2, aBin_be3, aBin_bn3, aBin_be4, aBin_bn4, aBin_be5, aBin_bn5, aBin_be6, aBin_bn6, aBin_be7, aBin_bn7, aBin_be8, aBin_bn8, aBin_be9, aBin_bn9, aUn_b, aUn_t, aUn_f, aUn_i, aNil_ptr, aNil_pv, aConv_int, aField_ptr, aField_pv, aIdx_sl, aIdx_prm, aIdx_row, aIdx_drow, aMake_i, aMake_s, aExtr_tup, aLen_ref, aLen_nil, aLen_sl, aLen_prm, aLen_str, aBuildL_some, aBuildS_some, aLoad_1b, aLoad_1d, aLoad_fb, aLoad_fd, aLoad_1p, aLoad_fp, aLoad_ep, aLoad_rr, aLoad_rd, aStore_1, aStore_f, aStore_r, aApp_some, aAppend_nil, aAppend_ref, aSlice_h, aSlice_l, aSlice_lh, bc_draw, kregD_at, aopsD_nil, aopsD_plain, aopsD_guard, kontD_at, contD_at, yesD_at, noD_at, splD_bool, splD_undef, splD_skip, splD_int, splD_tt, splD_ff, splD_str, splD_nil, splD_sl, splD_prm, splD_ref, splD_ptr, splD_rp, splD_ep, splD_pv, splD_agg, splD_tup, splD_clo, gD_tt, gD_tf, gD_ft, gD_ff, gD_ts, gD_fs, slotO_some, addTr_nil, addTr_cons, memQ_nil, memQ_cons, clash_nil, clash_cons, regC_none, regC_nil, regC_cons, regR_nil, regR_cons, Int.toNat_zero, Int.toNat_one, rng0, rng1, rng2, rng3, rng4, SC.take, SC.drop, mp_nil, acond_ct, acond_cf, mp_one0, mp_one1, mp_one2, mp_one3, kcall_one, liveB_row, liveB_box, idx, cont, still, dies, lend, lendA, lendDies, snocs, SC.snoc, SC.app, meet, AV.cells, fillA, List.getD_cons_zero, List.getD_cons_succ, List.set_cons_zero, List.set_cons_succ, List.length_singleton, Nat.le_refl, Nat.lt_irrefl, Nat.reduceLT, Nat.reduceLeDiff, Option.map_some, Option.map_none, List.flatMap_nil, List.flatMap_cons, Nat.zero_add, BEq.rfl, sl3, ty3, un3, sl56, ty56, un56, sl85, ty85, un85, sl83, ty83, un83, sl5, ty5, un5, sl2, ty2, un2, sl21, ty21, un21, sl4, ty4, un4, sl9, un9, sl22, ty22, un22, ty39, sl39, ty33, sl33, inR64, inRu64, inRu32, gs_impl_lackOf_63, at_impl_sizeOf, lend_impl_sizeOf, Int.toNat_natCast]
  simp only [IntKind.bits]
  refine ⟨fun hi => ⟨by omega, by omega, by omega, fun hb => ⟨by omega, ?_⟩, fun hb => ⟨by omega, ?_⟩⟩, fun hi => ?_⟩
  · exact klp_of (i + 1) (by rw [unionF, if_pos hb]; simp [St.conv, St.bf, getE, putE, getB, cv, cvL, cvB, idx, still, pack, lifts, liftOne, cellsOfB, setB]) (by omega) (by omega)
  · exact klp_of (i + 1) (by rw [unionF, if_neg hb]; simp [St.conv, St.bf, getE, putE, getB, cv, cvL, cvB, idx, still, pack, lifts, liftOne, cellsOfB, setB]) (by omega) (by omega)
  · have : i = l.length := by omega
    rw [this]
    have h2 := unionF_bd (code := code) (l := l) (n := l.length) hp2
    have h3 := @popI_bd code
    have h4 := @popI_bd (unionF l code l.length)
    exact ⟨hp3, by omega, by omega, rfl⟩
def lend_impl_lackOf : List Nat := []
def sp_impl_lackOf : List AV → List Bx → (AV → List Bx → Prop) → Prop
  | [.sl none (.ints .i64 l), .int .i64 code], [], K => (l.length ≤ 6) ∧ (∀ i, i < l.length → 0 ≤ l.getD i 0 ∧ l.getD i 0 ≤ 63) ∧ (0 ≤ code ∧ code < 1024) ∧ K (.int .i64 (lackI l code)) []
  | _, _, _ => False
theorem at_impl_lackOf {l : List Int} {code : Int} {K : AV → List Bx → Prop} : sp_impl_lackOf [.sl none (.ints .i64 l), .int .i64 code] [] K = ((l.length ≤ 6) ∧ (∀ i, i < l.length → 0 ≤ l.getD i 0 ∧ l.getD i 0 ≤ 63) ∧ (0 ≤ code ∧ code < 1024) ∧ K (.int .i64 (lackI l code)) []) := id rfl
theorem ok_impl_lackOf : ∀ args giv K, sp_impl_lackOf args giv K → ∃ r outs, ARuns Try.prog 74 args giv r outs ∧ K r outs := by
  intro args giv K hk
  unfold sp_impl_lackOf at hk
  split at hk
  · obtain ⟨hp1, hp2, hp3, hk⟩ := hk; exact ⟨_, _, runs_impl_lackOf _ _ hp1 hp2 hp3, hk⟩
  · exact hk.elim
theorem is_impl_HallViolator : FnIs Try.prog 37 25 [.tmp 4, .tmp 5] (Try.f37.body.getD .skip) := ⟨⟨Try.f37, by kernel_rfl, by kernel_rfl, by kernel_rfl, by kernel_rfl⟩, by kernel_rfl, by kernel_rfl⟩
def G_impl_HallViolator : Gm := (((Gm.none.add 50 lend_impl_areFew sp_impl_areFew).add 54 lend_impl_elementsOf sp_impl_elementsOf).add 74 lend_impl_lackOf sp_impl_lackOf)
theorem G_impl_HallViolator_ok : G_impl_HallViolator.ok Try.prog := (Gm.add_ok (Gm.add_ok (Gm.add_ok Gm.none_ok ok_impl_areFew) ok_impl_elementsOf) ok_impl_lackOf)
theorem gs_impl_HallViolator_50 : G_impl_HallViolator.sp 50 = sp_impl_areFew ∧ G_impl_HallViolator.lend 50 = lend_impl_areFew := ⟨rfl, rfl⟩
theorem gs_impl_HallViolator_54 : G_impl_HallViolator.sp 54 = sp_impl_elementsOf ∧ G_impl_HallViolator.lend 54 = lend_impl_elementsOf := ⟨rfl, rfl⟩
theorem gs_impl_HallViolator_74 : G_impl_HallViolator.sp 74 = sp_impl_lackOf ∧ G_impl_HallViolator.lend 74 = lend_impl_lackOf := ⟨rfl, rfl⟩
set_option maxHeartbeats 1000000 in
set_option maxRecDepth 100000 in
theorem runs_impl_HallViolator (n : Int) (l : List Int) : ARuns Try.prog 37 [.int .i64 n, .sl none (.ints .i64 l)] [] (.tup [.ref 0 (hallL n l).length, .bool (hallB n l)]) [.row 3 (.ints .i64 (hallL n l))] := by
  refine ARuns_bc G_impl_HallViolator_ok is_impl_HallViolator (by simp) fun hl hlB => ?_
  simp only [kcode_at, kreg_at, bc_skip, bc_seq, bc_cond, bc_block, bc_exit, bc_ret, bc_region, lkX_cons, acond_tmp, aCase_t, aCase_f, aCase_b, afin_nil, cvE_some, resL, resV, resC, cv, cvL, pack, entryE, inPrm, Option.getD_some, acall_clo, add_sp, add_lend, kcall_nil, selOf, selA, inArgs, inA, inL, okA, okL, okBx, okC, outA, outL, outU, outB, deep, deepL, boxIds, AV.bid, List.map_nil, List.map_cons, List.all_nil, List.all_cons, BEq.rfl, Bool.and_true, Bool.true_and, List.append_nil, aops_nil, aops_plain, aops_guard, kont_at, yes_at, no_at, aop_move, aop_assign, aop_pick, aop_alloc, aop_box, aop_build, aop_buildSlice, aop_load, aop_store, aop_nilCheck, aop_binOp, aop_unOp, aop_convert, aop_fieldAddr, aop_indexAddr, aop_slice, aop_extract, aop_makeSlice, aop_len, aop_max, aMax_int, slTy2, SC0, aop_append, aop_call, evalE, getE, putE, getB, setB, St.put, setsB, nth, AV.ofV, AV.blk, AV.bid, AV.one, SC.len, SC.get, List.length_nil, List.length_cons, Nat.reduceEqDiff, Nat.reduceAdd, ↓reduceIte, true_and, and_true, Bool.true_eq_false, Bool.false_eq_true, false_imp_iff, true_imp_iff, decide_eq_true_eq, Bool.not_eq_true', Bool.not_eq_false', decide_eq_false_iff_not, Option.isSome, List.nil_append, List.cons_append, aGuardO_some, aGuard_tt, aGuard_tf, aGuard_ft, aGuard_ff, aGuard_tb, aGuard_fb, aGuard_ts, aGuard_fs, aPick_b, aPick_t, aPick_f, aAlloc_one, aAlloc_flat, aBox_some, aBuild_flat, aInt_add, aBin_add, aInt_sub, aBin_sub, aInt_mul, aBin_mul, aInt_quo, aBin_quo, aInt_rem, aBin_rem, aInt_and, aBin_and, aInt_or, aBin_or, aInt_xor, aBin_xor, aInt_andNot, aBin_andNot, aInt_eql, aBin_eql, aInt_neq, aBin_neq, aInt_lss, aBin_lss, aInt_leq, aBin_leq, aInt_gtr, aBin_gtr, aInt_geq, aBin_geq, aBin_shl, aBin_shr, aShift_shl, aShift_shr, aBin_be1, aBin_bn1, aBin_be2, aBin_bn2, aBin_be3, aBin_bn3, aBin_be4, aBin_bn4, aBin_be5, aBin_bn5, aBin_be6, aBin_bn6, aBin_be7, aBin_bn7, aBin_be8, aBin_bn8, aBin_be9, aBin_bn9, aUn_b, aUn_t, aUn_f, aUn_i, aNil_ptr, aNil_pv, aConv_int, aField_ptr, aField_pv, aIdx_sl, aIdx_prm, aIdx_row, aIdx_drow, aMake_i, aMake_s, aExtr_tup, aLen_ref, aLen_nil, aLen_sl, aLen_prm, aLen_str, aBuildL_some, aBuildS_some, aLoad_1b, aLoad_1d, aLoad_fb, aLoad_fd, aLoad_1p, aLoad_fp, aLoad_ep, aLoad_rr, aLoad_rd, aStore_1, aStore_f, aStore_r, aApp_some, aAppend_nil, aAppend_ref, aSlice_h, aSlice_l, aSlice_lh, bc_draw, kregD_at, aopsD_nil, aopsD_plain, aopsD_guard, kontD_at, contD_at, yesD_at, noD_at, splD_bool, splD_undef, splD_skip, splD_int, splD_tt, splD_ff, splD_str, splD_nil, splD_sl, splD_prm, splD_ref, splD_ptr, splD_rp, splD_ep, splD_pv, splD_agg, splD_tup, splD_clo, gD_tt, gD_tf, gD_ft, gD_ff, gD_ts, gD_fs, slotO_some, addTr_nil, addTr_cons, memQ_nil, memQ_cons, clash_nil, clash_cons, regC_none, regC_nil, regC_cons, regR_nil, regR_cons, Int.toNat_zero, Int.toNat_one, rng0, rng1, rng2, rng3, rng4, SC.take, SC.drop, mp_nil, acond_ct, acond_cf, mp_one0, mp_one1, mp_one2, mp_one3, kcall_one, liveB_row, liveB_box, idx, cont, still, dies, lend, lendA, lendDies, snocs, SC.snoc, SC.app, meet, AV.cells, fillA, List.getD_cons_zero, List.getD_cons_succ, List.set_cons_zero, List.set_cons_succ, List.length_singleton, Nat.le_refl, Nat.lt_irrefl, Nat.reduceLT, Nat.reduceLeDiff, Option.map_some, Option.map_none, List.flatMap_nil, List.flatMap_cons, Nat.zero_add, BEq.rfl, sl3, ty3, un3, sl56, ty56, un56, sl85, ty85, un85, sl83, ty83, un83, sl5, ty5, un5, sl2, ty2, un2, sl21, ty21, un21, sl4, ty4, un4, sl9, un9, sl22, ty22, un22, ty39, sl39, ty33, sl33, inR64, inRu64, inRu32, gs_impl_HallViolator_50, at_impl_areFew, lend_impl_areFew, gs_impl_HallViolator_54, at_impl_elementsOf, lend_impl_elementsOf, gs_impl_HallViolator_74, at_impl_lackOf, lend_impl_lackOf, Try.f37]
  simp only [lensA, lenA, lenSC] at hl
  refine ⟨fun hf => ?_, fun hf => ?_⟩
  · have hn := hall_f (n := n) (l := l) (by simpa using hf)
    rw [hn.1, hn.2]
    exact afin_ofN [(4,3,.ints .i64 [])] [0] rfl rfl rfl (by simp [St.conv, St.bf, getE, putE, getB, cv, cvL, cvB, idx, still, pack, lifts, liftOne, cellsOfB, setB]) (by simp [St.conv, St.bf, getE, putE, getB, cv, cvL, cvB, idx, still, pack, lifts, liftOne, cellsOfB, setB])
  have hf : fewB n l = true := by simpa using hf
  obtain ⟨h6, hs⟩ := fewB_iff.1 hf
  have hb := setsOk_bd hs
  obtain ⟨e1, e2, e3⟩ := two_pow6 h6
  simp only [IntKind.bits, Int.toNat_natCast, e1]
  refine ⟨by omega, by omega, ?_⟩
  refine bc_loop (fun i : Nat => i ≤ 2 ^ l.length ∧ ∀ k, k < i → hallP l k = false)
    (fun i => ⟨[(1, .prm 1 (.ints .i64 l)), (14, .int .i64 ((2 ^ l.length : Nat) : Int)), (15, .int .i64 i)], []⟩) (fun i => 2 ^ l.length - i)
    [1, 14, 15] [] 0 rfl (by simp [St.conv, St.bf, getE, putE, getB, cv, cvL, cvB, idx, still, pack, lifts, liftOne, cellsOfB, setB]) ⟨by omega, fun k hk => absurd hk (by omega)⟩ fun i ⟨h2, h3⟩ => ?_
  simp only [kcode_at, kreg_at, bc_skip, bc_seq, bc_cond, bc_block, bc_exit, bc_ret, bc_region, lkX_cons, acond_tmp, aCase_t, aCase_f, aCase_b, afin_nil, cvE_some, resL, resV, resC, cv, cvL, pack, entryE, inPrm, Option.getD_some, acall_clo, add_sp, add_lend, kcall_nil, selOf, selA, inArgs, inA, inL, okA, okL, okBx, okC, outA, outL, outU, outB, deep, deepL, boxIds, AV.bid, List.map_nil, List.map_cons, List.all_nil, List.all_cons, BEq.rfl, Bool.and_true, Bool.true_and, List.append_nil, aops_nil, aops_plain, aops_guard, kont_at, yes_at, no_at, aop_move, aop_assign, aop_pick, aop_alloc, aop_box, aop_build, aop_buildSlice, aop_load, aop_store, aop_nilCheck, aop_binOp, aop_unOp, aop_convert, aop_fieldAddr, aop_indexAddr, aop_slice, aop_extract, aop_makeSlice, aop_len, aop_max, aMax_int, slTy2, SC0, aop_append, aop_call, evalE, getE, putE, getB, setB, St.put, setsB, nth, AV.ofV, AV.blk, AV.bid, AV.one, SC.len, SC.get, List.length_nil, List.length_cons, Nat.reduceEqDiff, Nat.reduceAdd, ↓reduceIte, true_and, and_true, Bool.true_eq_false, Bool.false_eq_true, false_imp_iff, true_imp_iff, decide_eq_true_eq, Bool.not_eq_true', Bool.not_eq_false', decide_eq_false_iff_not, Option.isSome, List.nil_append, List.cons_append, aGuardO_some, aGuard_tt, aGuard_tf, aGuard_ft, aGuard_ff, aGuard_tb, aGuard_fb, aGuard_ts, aGuard_fs, aPick_b, aPick_t, aPick_f, aAlloc_one, aAlloc_flat, aBox_some, aBuild_flat, aInt_add, aBin_add, aInt_sub, aBin_sub, aInt_mul, aBin_mul, aInt_quo, aBin_quo, aInt_rem, aBin_rem, aInt_and, aBin_and, aInt_or, aBin_or, aInt_xor, aBin_xor, aInt_andNot, aBin_andNot, aInt_eql, aBin_eql, aInt_neq, aBin_neq, aInt_lss, aBin_lss, aInt_leq, aBin_leq, aInt_gtr, aBin_gtr, aInt_geq, aBin_geq, aBin_shl, aBin_shr, aShift_shl, aShift_shr, aBin_be1, aBin_bn1, aBin_be2, aBin_bn2, aBin_be3, aBin_bn3, aBin_be4, aBin_bn4, aBin_be5, aBin_bn5, aBin_be6, aBin_bn6, aBin_be7, aBin_bn7, aBin_be8, aBin_bn8, aBin_be9, aBin_bn9, aUn_b, aUn_t, aUn_f, aUn_i, aNil_ptr, aNil_pv, aConv_int, aField_ptr, aField_pv, aIdx_sl, aIdx_prm, aIdx_row, aIdx_drow, aMake_i, aMake_s, aExtr_tup, aLen_ref, aLen_nil, aLen_sl, aLen_prm, aLen_str, aBuildL_some, aBuildS_some, aLoad_1b, aLoad_1d, aLoad_fb, aLoad_fd, aLoad_1p, aLoad_fp, aLoad_ep, aLoad_rr, aLoad_rd, aStore_1, aStore_f, aStore_r, aApp_some, aAppend_nil, aAppend_ref, aSlice_h, aSlice_l, aSlice_lh, bc_draw, kregD_at, aopsD_nil, aopsD_plain, aopsD_guard, kontD_at, contD_at, yesD_at, noD_at, splD_bool, splD_undef, splD_skip, splD_int, splD_tt, splD_ff, splD_str, splD_nil, splD_sl, splD_prm, splD_ref, splD_ptr, splD_rp, splD_ep, splD_pv, splD_agg, splD_tup, splD_clo, gD_tt, gD_tf, gD_ft, gD_ff, gD_ts, gD_fs, slotO_some, addTr_nil, addTr_cons, memQ_nil, memQ_cons, clash_nil, clash_cons, regC_none, regC_nil, regC_cons, regR_nil, regR_cons, Int.toNat_zero, Int.toNat_one, rng0, rng1, rng2, rng3, rng4, SC.take, SC.drop, mp_nil, acond_ct, acond_cf, mp_one0, mp_one1, mp_one2, mp_one3, kcall_one, liveB_row, liveB_box, idx, cont, still, dies, lend, lendA, lendDies, snocs, SC.snoc, SC.app, meet, AV.cells, fillA, List.getD_cons_zero, List.getD_cons_succ, List.set_cons_zero, List.set_cons_succ, List.length_singleton, Nat.le_refl, Nat.lt_irrefl, Nat.reduceLT, Nat.reduceLeDiff, Option.map_some, Option.map_none, List.flatMap_nil, List.flatMap_cons, Nat.zero_add, BEq.rfl, sl3, ty3, un3, sl56, ty56, un56, sl85, ty85, un85, sl83, ty83, un83, sl5, ty5, un5, sl2, ty2, un2, sl21, ty21, un21, sl4, ty4, un4, sl9, un9, sl22, ty22, un22, ty39, sl39, ty33, sl33, inR64, inRu64, inRu32, gs_impl_HallViolator_50, at_impl_areFew, lend_impl_areFew, gs_impl_HallViolator_54, at_impl_elementsOf, lend_impl_elementsOf, gs_impl_HallViolator_74, at_impl_lackOf, lend_impl_lackOf, Int.toNat_natCast]
  have e : lackI l (i : Int) = lackN l i := rfl
  rw [e]
  refine ⟨fun hi => ⟨h6, fun j hj => by have := hb.2 j hj; omega, by omega, fun hp => ⟨by omega, ?_⟩, fun hp => ⟨by omega, klp_of (i + 1) ?_ ⟨by omega, fun k hk => ?_⟩ (by omega)⟩⟩, fun hi => ?_⟩
  · have h := hall_s hf (firstN_some (n := 2 ^ l.length) (i := i) (p := hallP l) (by omega) (hallP_t (by omega)) h3)
    rw [h.1, h.2]
    exact afin_of [0] rfl rfl (by simp [St.conv, St.bf, getE, putE, getB, cv, cvL, cvB, idx, still, pack, lifts, liftOne, cellsOfB, setB]) (by simp [St.conv, St.bf, getE, putE, getB, cv, cvL, cvB, idx, still, pack, lifts, liftOne, cellsOfB, setB])
  · simp [St.conv, St.bf, getE, putE, getB, cv, cvL, cvB, idx, still, pack, lifts, liftOne, cellsOfB, setB]
  · by_cases hk2 : k < i
    · exact h3 k hk2
    · have : k = i := by omega
      subst this
      exact hallP_f (by omega)
  · have : i = 2 ^ l.length := by omega
    have h := hall_n (n := n) (firstN_none (n := 2 ^ l.length) (p := hallP l) (fun k hk => h3 k (by omega)))
    rw [h.1, h.2]
    exact afin_ofN [(4,3,.ints .i64 [])] [0] rfl rfl rfl (by simp [St.conv, St.bf, getE, putE, getB, cv, cvL, cvB, idx, still, pack, lifts, liftOne, cellsOfB, setB]) (by simp [St.conv, St.bf, getE, putE, getB, cv, cvL, cvB, idx, still, pack, lifts, liftOne, cellsOfB, setB])
def lend_impl_HallViolator : List Nat := []
def sp_impl_HallViolator : List AV → List Bx → (AV → List Bx → Prop) → Prop
  | [.int .i64 n, .sl none (.ints .i64 l)], [], K => K (.tup [.ref 0 (hallL n l).length, .bool (hallB n l)]) [.row 3 (.ints .i64 (hallL n l))]
  | _, _, _ => False
theorem at_impl_HallViolator {n : Int} {l : List Int} {K : AV → List Bx → Prop} : sp_impl_HallViolator [.int .i64 n, .sl none (.ints .i64 l)] [] K = (K (.tup [.ref 0 (hallL n l).length, .bool (hallB n l)]) [.row 3 (.ints .i64 (hallL n l))]) := id rfl
theorem ok_impl_HallViolator : ∀ args giv K, sp_impl_HallViolator args giv K → ∃ r outs, ARuns Try.prog 37 args giv r outs ∧ K r outs := by
  intro args giv K hk
  unfold sp_impl_HallViolator at hk
  split at hk
  · exact ⟨_, _, runs_impl_HallViolator _ _ , hk⟩
  · exact hk.elim
theorem is_laws_FnExactHallViolator : FnIs Try.prog 9 98 [.tmp 4] (Try.f9.body.getD .skip) := ⟨⟨Try.f9, by kernel_rfl, by kernel_rfl, by kernel_rfl, by kernel_rfl⟩, by kernel_rfl, by kernel_rfl⟩
def G_laws_FnExactHallViolator : Gm := ((((((Gm.none.add 16 lend_laws_toIntS sp_laws_toIntS).add 18 lend_laws_eqIntS sp_laws_eqIntS).add 23 lend_laws_markIntS sp_laws_markIntS).add 24 lend_laws_heldIntS sp_laws_heldIntS).add 36 lend_spec_HallViolator sp_spec_HallViolator).add 37 lend_impl_HallViolator sp_impl_HallViolator)
theorem G_laws_FnExactHallViolator_ok : G_laws_FnExactHallViolator.ok Try.prog := (Gm.add_ok (Gm.add_ok (Gm.add_ok (Gm.add_ok (Gm.add_ok (Gm.add_ok Gm.none_ok ok_laws_toIntS) ok_laws_eqIntS) ok_laws_markIntS) ok_laws_heldIntS) ok_spec_HallViolator) ok_impl_HallViolator)
theorem gs_laws_FnExactHallViolator_16 : G_laws_FnExactHallViolator.sp 16 = sp_laws_toIntS ∧ G_laws_FnExactHallViolator.lend 16 = lend_laws_toIntS := ⟨rfl, rfl⟩
theorem gs_laws_FnExactHallViolator_18 : G_laws_FnExactHallViolator.sp 18 = sp_laws_eqIntS ∧ G_laws_FnExactHallViolator.lend 18 = lend_laws_eqIntS := ⟨rfl, rfl⟩
theorem gs_laws_FnExactHallViolator_23 : G_laws_FnExactHallViolator.sp 23 = sp_laws_markIntS ∧ G_laws_FnExactHallViolator.lend 23 = lend_laws_markIntS := ⟨rfl, rfl⟩
theorem gs_laws_FnExactHallViolator_24 : G_laws_FnExactHallViolator.sp 24 = sp_laws_heldIntS ∧ G_laws_FnExactHallViolator.lend 24 = lend_laws_heldIntS := ⟨rfl, rfl⟩
theorem gs_laws_FnExactHallViolator_36 : G_laws_FnExactHallViolator.sp 36 = sp_spec_HallViolator ∧ G_laws_FnExactHallViolator.lend 36 = lend_spec_HallViolator := ⟨rfl, rfl⟩
theorem gs_laws_FnExactHallViolator_37 : G_laws_FnExactHallViolator.sp 37 = sp_impl_HallViolator ∧ G_laws_FnExactHallViolator.lend 37 = lend_impl_HallViolator := ⟨rfl, rfl⟩
set_option maxHeartbeats 1000000 in
set_option maxRecDepth 100000 in
theorem runs_laws_FnExactHallViolator (n : Int) (xs : List Int) (hp1 : -9223372036854775808 ≤ n ∧ n ≤ 9223372036854775807) (hp2 : ∀ n ∈ xs, -9223372036854775808 ≤ n ∧ n ≤ 9223372036854775807) (hp3 : xs.length ≤ 9223372036854775807) : ARuns Try.prog 9 [.int .i64 n, .sl none (.ints .i64 xs)] [] (.bool true) [] := by
  refine ARuns_bc G_laws_FnExactHallViolator_ok is_laws_FnExactHallViolator (by simp) fun hl hlB => ?_
  simp only [kcode_at, kreg_at, bc_skip, bc_seq, bc_cond, bc_block, bc_exit, bc_ret, bc_region, lkX_cons, acond_tmp, aCase_t, aCase_f, aCase_b, afin_nil, cvE_some, resL, resV, resC, cv, cvL, pack, entryE, inPrm, Option.getD_some, acall_clo, add_sp, add_lend, kcall_nil, selOf, selA, inArgs, inA, inL, okA, okL, okBx, okC, outA, outL, outU, outB, deep, deepL, boxIds, AV.bid, List.map_nil, List.map_cons, List.all_nil, List.all_cons, BEq.rfl, Bool.and_true, Bool.true_and, List.append_nil, aops_nil, aops_plain, aops_guard, kont_at, yes_at, no_at, aop_move, aop_assign, aop_pick, aop_alloc, aop_box, aop_build, aop_buildSlice, aop_load, aop_store, aop_nilCheck, aop_binOp, aop_unOp, aop_convert, aop_fieldAddr, aop_indexAddr, aop_slice, aop_extract, aop_makeSlice, aop_len, aop_max, aMax_int, slTy2, SC0, aop_append, aop_call, evalE, getE, putE, getB, setB, St.put, setsB, nth, AV.ofV, AV.blk, AV.bid, AV.one, SC.len, SC.get, List.length_nil, List.length_cons, Nat.reduceEqDiff, Nat.reduceAdd, ↓reduceIte, true_and, and_true, Bool.true_eq_false, Bool.false_eq_true, false_imp_iff, true_imp_iff, decide_eq_true_eq, Bool.not_eq_true', Bool.not_eq_false', decide_eq_false_iff_not, Option.isSome, List.nil_append, List.cons_append, aGuardO_some, aGuard_tt, aGuard_tf, aGuard_ft, aGuard_ff, aGuard_tb, aGuard_fb, aGuard_ts, aGuard_fs, aPick_b, aPick_t, aPick_f, aAlloc_one, aAlloc_flat, aBox_some, aBuild_flat, aInt_add, aBin_add, aInt_sub, aBin_sub, aInt_mul, aBin_mul, aInt_quo, aBin_quo, aInt_rem, aBin_rem, aInt_and, aBin_and, aInt_or, aBin_or, aInt_xor, aBin_xor, aInt_andNot, aBin_andNot, aInt_eql, aBin_eql, aInt_neq, aBin_neq, aInt_lss, aBin_lss, aInt_leq, aBin_leq, aInt_gtr, aBin_gtr, aInt_geq, aBin_geq, aBin_shl, aBin_shr, aShift_shl, aShift_shr, aBin_be1, aBin_bn1, aBin_be2, aBin_bn2, aBin_be3, aBin_bn3, aBin_be4, aBin_bn4, aBin_be5, aBin_bn5, aBin_be6, aBin_bn6, aBin_be7, aBin_bn7, aBin_be8, aBin_bn8, aBin_be9, aBin_bn9, aUn_b, aUn_t, aUn_f, aUn_i, aNil_ptr, aNil_pv, aConv_int, aField_ptr, aField_pv, aIdx_sl, aIdx_prm, aIdx_row, aIdx_drow, aMake_i, aMake_s, aExtr_tup, aLen_ref, aLen_nil, aLen_sl, aLen_prm, aLen_str, aBuildL_some, aBuildS_some, aLoad_1b, aLoad_1d, aLoad_fb, aLoad_fd, aLoad_1p, aLoad_fp, aLoad_ep, aLoad_rr, aLoad_rd, aStore_1, aStore_f, aStore_r, aApp_some, aAppend_nil, aAppend_ref, aSlice_h, aSlice_l, aSlice_lh, bc_draw, kregD_at, aopsD_nil, aopsD_plain, aopsD_guard, kontD_at, contD_at, yesD_at, noD_at, splD_bool, splD_undef, splD_skip, splD_int, splD_tt, splD_ff, splD_str, splD_nil, splD_sl, splD_prm, splD_ref, splD_ptr, splD_rp, splD_ep, splD_pv, splD_agg, splD_tup, splD_clo, gD_tt, gD_tf, gD_ft, gD_ff, gD_ts, gD_fs, slotO_some, addTr_nil, addTr_cons, memQ_nil, memQ_cons, clash_nil, clash_cons, regC_none, regC_nil, regC_cons, regR_nil, regR_cons, Int.toNat_zero, Int.toNat_one, rng0, rng1, rng2, rng3, rng4, SC.take, SC.drop, mp_nil, acond_ct, acond_cf, mp_one0, mp_one1, mp_one2, mp_one3, kcall_one, liveB_row, liveB_box, idx, cont, still, dies, lend, lendA, lendDies, snocs, SC.snoc, SC.app, meet, AV.cells, fillA, List.getD_cons_zero, List.getD_cons_succ, List.set_cons_zero, List.set_cons_succ, List.length_singleton, Nat.le_refl, Nat.lt_irrefl, Nat.reduceLT, Nat.reduceLeDiff, Option.map_some, Option.map_none, List.flatMap_nil, List.flatMap_cons, Nat.zero_add, BEq.rfl, sl3, ty3, un3, sl56, ty56, un56, sl85, ty85, un85, sl83, ty83, un83, sl5, ty5, un5, sl2, ty2, un2, sl21, ty21, un21, sl4, ty4, un4, sl9, un9, sl22, ty22, un22, ty39, sl39, ty33, sl33, inR64, inRu64, inRu32, gs_laws_FnExactHallViolator_16, at_laws_toIntS, lend_laws_toIntS, gs_laws_FnExactHallViolator_18, at_laws_eqIntS, lend_laws_eqIntS, gs_laws_FnExactHallViolator_23, at_laws_markIntS, lend_laws_markIntS, gs_laws_FnExactHallViolator_24, at_laws_heldIntS, lend_laws_heldIntS, gs_laws_FnExactHallViolator_36, at_spec_HallViolator, lend_spec_HallViolator, gs_laws_FnExactHallViolator_37, at_impl_HallViolator, lend_impl_HallViolator, iotaI_len, heldI_iota, Try.f9]
  trace_state
  have hh := hallL_len (n := n) (l := xs)
  refine ⟨fun _ => trivial, fun h => ?_⟩
  (repeat' (first | apply And.intro | intro _)) <;> first | (show ordB _ _ _ = true; kernel_rfl) | trivial | omega | (rename_i a b; exact absurd (a.symm.trans b) (by decide)) | (simp_all; done) | skip
def lend_laws_FnExactHallViolator : List Nat := []
def sp_laws_FnExactHallViolator : List AV → List Bx → (AV → List Bx → Prop) → Prop
  | [.int .i64 n, .sl none (.ints .i64 xs)], [], K => (-9223372036854775808 ≤ n ∧ n ≤ 9223372036854775807) ∧ (∀ n ∈ xs, -9223372036854775808 ≤ n ∧ n ≤ 9223372036854775807) ∧ (xs.length ≤ 9223372036854775807) ∧ K (.bool true) []
  | _, _, _ => False
theorem at_laws_FnExactHallViolator {n : Int} {xs : List Int} {K : AV → List Bx → Prop} : sp_laws_FnExactHallViolator [.int .i64 n, .sl none (.ints .i64 xs)] [] K = ((-9223372036854775808 ≤ n ∧ n ≤ 9223372036854775807) ∧ (∀ n ∈ xs, -9223372036854775808 ≤ n ∧ n ≤ 9223372036854775807) ∧ (xs.length ≤ 9223372036854775807) ∧ K (.bool true) []) := id rfl
theorem ok_laws_FnExactHallViolator : ∀ args giv K, sp_laws_FnExactHallViolator args giv K → ∃ r outs, ARuns Try.prog 9 args giv r outs ∧ K r outs := by
  intro args giv K hk
  unfold sp_laws_FnExactHallViolator at hk
  split at hk
  · obtain ⟨hp1, hp2, hp3, hk⟩ := hk; exact ⟨_, _, runs_laws_FnExactHallViolator _ _ hp1 hp2 hp3, hk⟩
  · exact hk.elim
end Go.Proofs.Ytdpimgmjoecieaa
