import Derived.Test.YtbookhehpebcmaaA30
import Derived.Test.YtbookhehpebcmaaSh
namespace Go.Proofs.Ytbookhehpebcmaa
open AM
set_option linter.unusedSimpArgs false
set_option linter.unusedVariables false
theorem sl3 : slTy Try.prog 3 = none := by kernel_rfl
theorem ty3 : tyOf Try.prog 3 = .one (.int .i64 0) := by kernel_rfl
theorem un3 : Try.prog.underlying 3 = some (.int .i64) := by kernel_rfl
theorem sl78 : slTy Try.prog 78 = none := by kernel_rfl
theorem ty78 : tyOf Try.prog 78 = .one (.int .u64 0) := by kernel_rfl
theorem un78 : Try.prog.underlying 78 = some (.int .u64) := by kernel_rfl
theorem sl106 : slTy Try.prog 106 = none := by kernel_rfl
theorem ty106 : tyOf Try.prog 106 = .one (.int .u64 0) := by kernel_rfl
theorem un106 : Try.prog.underlying 106 = some (.int .u64) := by kernel_rfl
theorem sl104 : slTy Try.prog 104 = none := by kernel_rfl
theorem ty104 : tyOf Try.prog 104 = .one (.int .u32 0) := by kernel_rfl
theorem un104 : Try.prog.underlying 104 = some (.int .u32) := by kernel_rfl
theorem sl5 : slTy Try.prog 5 = none := by kernel_rfl
theorem ty5 : tyOf Try.prog 5 = .one (.int .u8 0) := by kernel_rfl
theorem un5 : Try.prog.underlying 5 = some (.int .u8) := by kernel_rfl
theorem sl2 : slTy Try.prog 2 = none := by kernel_rfl
theorem ty2 : tyOf Try.prog 2 = .one (.int .i64 0) := by kernel_rfl
theorem un2 : Try.prog.underlying 2 = some (.int .i64) := by kernel_rfl
theorem sl21 : slTy Try.prog 21 = none := by kernel_rfl
theorem ty21 : tyOf Try.prog 21 = .one (.int .i32 0) := by kernel_rfl
theorem un21 : Try.prog.underlying 21 = some (.int .i32) := by kernel_rfl
theorem sl4 : slTy Try.prog 4 = none := by kernel_rfl
theorem ty4 : tyOf Try.prog 4 = .one .ff := by kernel_rfl
theorem un4 : Try.prog.underlying 4 = some .bool := by kernel_rfl
theorem sl9 : slTy Try.prog 9 = none := by kernel_rfl
theorem un9 : Try.prog.underlying 9 = some .string := by kernel_rfl
theorem sl24 : slTy Try.prog 24 = some (3, .ints .i64 []) := by kernel_rfl
theorem ty24 : tyOf Try.prog 24 = .one .nil := by kernel_rfl
theorem un24 : Try.prog.underlying 24 = some (.slice 3) := by kernel_rfl
theorem sl22 : slTy Try.prog 22 = some (5, .ints .u8 []) := by kernel_rfl
theorem ty22 : tyOf Try.prog 22 = .one .nil := by kernel_rfl
theorem un22 : Try.prog.underlying 22 = some (.slice 5) := by kernel_rfl
theorem sl42 : slTy Try.prog 42 = some (24, .rows (some 3) []) := by kernel_rfl
theorem ty42 : tyOf Try.prog 42 = .one .nil := by kernel_rfl
theorem un42 : Try.prog.underlying 42 = some (.slice 24) := by kernel_rfl
theorem sl47 : slTy Try.prog 47 = none := by kernel_rfl
theorem sl82 : slTy Try.prog 82 = none := by kernel_rfl
theorem sl68 : slTy Try.prog 68 = none := by kernel_rfl
theorem sl107 : slTy Try.prog 107 = none := by kernel_rfl
theorem sl115 : slTy Try.prog 115 = none := by kernel_rfl
theorem sl119 : slTy Try.prog 119 = none := by kernel_rfl
theorem ty82 : tyOf Try.prog 82 = .one .undef := by kernel_rfl
theorem ty56 : tyOf Try.prog 56 = .flat [.int .i64 0, .nil] := by kernel_rfl
theorem sl56 : slTy Try.prog 56 = none := by kernel_rfl
theorem ty26 : tyOf Try.prog 26 = .flat [.int .i64 0, .nil] := by kernel_rfl
theorem sl26 : slTy Try.prog 26 = none := by kernel_rfl
theorem ty101 : tyOf Try.prog 101 = .flat [.nil, .undef] := by kernel_rfl
theorem sl101 : slTy Try.prog 101 = none := by kernel_rfl
theorem ty93 : tyOf Try.prog 93 = .flat [.nil, .int .i64 0, .int .i64 0] := by kernel_rfl
theorem sl93 : slTy Try.prog 93 = none := by kernel_rfl
theorem inR64 {n : Int} : InR .i64 n = (-9223372036854775808 ≤ n ∧ n ≤ 9223372036854775807) := rfl
theorem inRu64 {n : Int} : InR .u64 n = (0 ≤ n ∧ n ≤ 18446744073709551615) := rfl
theorem inRu32 {n : Int} : InR .u32 n = (0 ≤ n ∧ n ≤ 4294967295) := rfl
def inB (n l m : Int) : Bool := decide (l ≤ n) && decide (n ≤ m)
theorem inB_t {n l m : Int} : (inB n l m = true) = (l ≤ n ∧ n ≤ m) := by simp [inB]
theorem inB_f {n l m : Int} : (inB n l m = false) = ¬ (l ≤ n ∧ n ≤ m) := by rw [← inB_t]; simp

theorem getD_get {xs : List Int} {i : Nat} (h : i < xs.length) : xs.getD i 0 = xs[i] := by rw [List.getD_eq_getElem?_getD, List.getElem?_eq_getElem h]; rfl
theorem take_succ_getD {xs : List Int} {i : Nat} (h : i < xs.length) : xs.take (i + 1) = xs.take i ++ [xs.getD i 0] := by
  rw [List.take_add_one, List.getElem?_eq_getElem h, getD_get h]; rfl
theorem copy_step {xs : List Int} {i : Nat} (h : i < xs.length) : (xs.take i ++ List.replicate (xs.length - i) 0).set i (xs.getD i 0) = xs.take (i + 1) ++ List.replicate (xs.length - (i + 1)) 0 := by
  have e : (xs.take i).length = i := by rw [List.length_take]; omega
  obtain ⟨m, hm⟩ : ∃ m, xs.length - i = m + 1 := ⟨xs.length - i - 1, by omega⟩
  rw [List.set_append_right _ _ (by omega), e, Nat.sub_self, hm, List.replicate_succ, List.set_cons_zero, take_succ_getD h, show xs.length - (i + 1) = m by omega, List.append_assoc]; rfl
/-- Two lists, element by element. -/
theorem eq_of_get {xs ys : List Int} (hl : xs.length = ys.length) (h : ∀ i, i < xs.length → xs.getD i 0 = ys.getD i 0) : xs = ys := by
  apply List.ext_getElem hl
  intro i h1 h2
  have := h i h1
  rwa [getD_get h1, getD_get h2] at this

def orBit (s e : Int) : Int := bor .i64 s (1 * 2 ^ e.toNat)
def bitAt (s e : Int) : Bool := decide (band .i64 (s / 2 ^ e.toNat) 1 = 1)
/-- The elements of a list as bits. -/
def seen (xs : List Int) : Int := xs.foldl orBit 0
theorem seen_nil : seen [] = 0 := rfl
theorem seen_snoc {xs : List Int} {x : Int} : seen (xs ++ [x]) = orBit (seen xs) x := by simp [seen]
theorem seen_succ {xs : List Int} {i : Nat} (h : i < xs.length) : seen (xs.take (i + 1)) = orBit (seen (xs.take i)) (xs.getD i 0) := by rw [take_succ_getD h, seen_snoc]
def okAt (n : Int) (xs : List Int) (i : Nat) : Bool := inB (xs.getD i 0) 0 (n - 1) && !bitAt (seen (xs.take i)) (xs.getD i 0)
def permB (n : Int) (xs : List Int) : Bool := decide ((xs.length : Int) = n) && (List.range xs.length).all (okAt n xs)
theorem permB_iff {n : Int} {xs : List Int} : permB n xs = true ↔ (xs.length : Int) = n ∧ ∀ i, i < xs.length → okAt n xs i = true := by
  simp [permB, List.all_eq_true]
theorem permB_false {n : Int} {xs : List Int} (h : ¬ ((xs.length : Int) = n ∧ ∀ i, i < xs.length → okAt n xs i = true)) : permB n xs = false := by
  rw [← permB_iff] at h; simpa using h
theorem pow_le62 {e : Int} (h : 0 ≤ e ∧ e ≤ 62) : 0 ≤ (1 : Int) * 2 ^ e.toNat ∧ (1 : Int) * 2 ^ e.toNat ≤ 2 ^ 62 := by
  have : (2 : Nat) ^ e.toNat ≤ 2 ^ 62 := Nat.pow_le_pow_right (by omega) (by omega)
  have h := Int.ofNat_le.2 this
  have h0 : (0 : Int) ≤ 2 ^ e.toNat := Int.pow_nonneg (by omega)
  simp at h
  omega
theorem okAt_iff {n : Int} {xs : List Int} {i : Nat} : okAt n xs i = true ↔ inB (xs.getD i 0) 0 (n - 1) = true ∧ ¬ band .i64 (seen (xs.take i) / 2 ^ (xs.getD i 0).toNat) 1 = 1 := by
  unfold okAt bitAt
  generalize xs.getD i 0 = e
  simp
/-- An order of at most six elements. -/
def ord6 (xs : List Int) : Bool := decide (xs.length ≤ 6) && permB xs.length xs
theorem ord6_t {xs : List Int} (h : ord6 xs = true) : xs.length ≤ 6 ∧ ∀ i, i < xs.length → 0 ≤ xs.getD i 0 ∧ xs.getD i 0 < 6 := by
  simp only [ord6, Bool.and_eq_true, decide_eq_true_eq] at h
  refine ⟨h.1, fun i hi => ?_⟩
  have := ((permB_iff.1 h.2).2 i hi)
  rw [okAt_iff, inB_t] at this
  omega
/-- The elements from a to b, as bits. -/
def sliceB (xs : List Int) (a b : Int) : Int := seen ((xs.take (b + 1).toNat).drop a.toNat)
def soiOk (xs : List Int) (a b : Int) : Bool := ord6 xs && (inB a 0 (xs.length - 1) && inB b a (xs.length - 1))
def soi (xs : List Int) (a b : Int) : Int := if soiOk xs a b = true then sliceB xs a b else 0
theorem soi_f {xs : List Int} {a b : Int} (h : ¬ (ord6 xs = true ∧ inB a 0 (xs.length - 1) = true ∧ inB b a (xs.length - 1) = true)) : soiOk xs a b = false ∧ soi xs a b = 0 := by
  have e : soiOk xs a b = false := by
    cases hh : soiOk xs a b with
    | false => rfl
    | true => exact absurd (by simpa [soiOk] using hh) h
  exact ⟨e, by simp [soi, e]⟩
theorem soi_t {xs : List Int} {a b : Int} (h : ord6 xs = true ∧ inB a 0 (xs.length - 1) = true ∧ inB b a (xs.length - 1) = true) : soiOk xs a b = true ∧ soi xs a b = sliceB xs a b := by
  have e : soiOk xs a b = true := by simpa [soiOk] using h
  exact ⟨e, by simp [soi, e]⟩
theorem sliceB_next {xs : List Int} {a : Int} {i : Nat} (ha : 0 ≤ a ∧ a.toNat ≤ i) (hi : i < xs.length) : seen ((xs.take (i + 1)).drop a.toNat) = orBit (seen ((xs.take i).drop a.toNat)) (xs.getD i 0) := by
  rw [take_succ_getD hi, List.drop_append_of_le_length (by rw [List.length_take]; omega), seen_snoc]

theorem wrap64 {n : Nat} (h : n < 2 ^ 63) : IntKind.wrap .i64 (n : Int) = n := by
  have h1 : (n : Int) % 2 ^ 64 = n := Int.emod_eq_of_lt (by omega) (by omega)
  simp only [IntKind.wrap, IntKind.bits, IntKind.signed, h1]
  rw [if_neg]
  simp; omega
theorem ofInt_nat {a : Nat} : BitVec.ofInt 64 (a : Int) = BitVec.ofNat 64 a := by simp
theorem bnd {a : Int} (h : 0 ≤ a) : a = ((a.toNat : Nat) : Int) := by omega
theorem band_nat {a b : Nat} (ha : a < 2 ^ 63) (hb : b < 2 ^ 63) : band .i64 a b = ((a &&& b : Nat) : Int) := by
  show IntKind.wrap .i64 ((BitVec.ofInt 64 (a : Int) &&& BitVec.ofInt 64 (b : Int)).toNat : Int) = _
  rw [ofInt_nat, ofInt_nat, BitVec.toNat_and, BitVec.toNat_ofNat, BitVec.toNat_ofNat]
  rw [Nat.mod_eq_of_lt (by omega), Nat.mod_eq_of_lt (by omega)]
  exact wrap64 (Nat.lt_of_le_of_lt Nat.and_le_left ha)
theorem bor_nat {a b : Nat} (ha : a < 2 ^ 63) (hb : b < 2 ^ 63) : bor .i64 a b = ((a ||| b : Nat) : Int) := by
  show IntKind.wrap .i64 ((BitVec.ofInt 64 (a : Int) ||| BitVec.ofInt 64 (b : Int)).toNat : Int) = _
  rw [ofInt_nat, ofInt_nat, BitVec.toNat_or, BitVec.toNat_ofNat, BitVec.toNat_ofNat]
  rw [Nat.mod_eq_of_lt (by omega), Nat.mod_eq_of_lt (by omega)]
  exact wrap64 (Nat.or_lt_two_pow ha hb)
theorem bxor_nat {a b : Nat} (ha : a < 2 ^ 63) (hb : b < 2 ^ 63) : bxor .i64 a b = ((a ^^^ b : Nat) : Int) := by
  show IntKind.wrap .i64 ((BitVec.ofInt 64 (a : Int) ^^^ BitVec.ofInt 64 (b : Int)).toNat : Int) = _
  rw [ofInt_nat, ofInt_nat, BitVec.toNat_xor, BitVec.toNat_ofNat, BitVec.toNat_ofNat]
  rw [Nat.mod_eq_of_lt (by omega), Nat.mod_eq_of_lt (by omega)]
  exact wrap64 (Nat.xor_lt_two_pow ha hb)
/-- a without b's bits. -/
theorem bandn_nat {a b : Nat} (ha : a < 2 ^ 63) (hb : b < 2 ^ 63) : bandn .i64 a b = ((a ^^^ (a &&& b) : Nat) : Int) := by
  have e : (BitVec.ofNat 64 a &&& ~~~ BitVec.ofNat 64 b) = BitVec.ofNat 64 a ^^^ (BitVec.ofNat 64 a &&& BitVec.ofNat 64 b) := by
    ext i hi
    simp only [BitVec.getElem_and, BitVec.getElem_not, BitVec.getElem_xor]
    cases (BitVec.ofNat 64 a)[i] <;> cases (BitVec.ofNat 64 b)[i] <;> rfl
  show IntKind.wrap .i64 ((BitVec.ofInt 64 (a : Int) &&& ~~~ BitVec.ofInt 64 (b : Int)).toNat : Int) = _
  rw [ofInt_nat, ofInt_nat, e, BitVec.toNat_xor, BitVec.toNat_and, BitVec.toNat_ofNat, BitVec.toNat_ofNat]
  rw [Nat.mod_eq_of_lt (show a < 2 ^ 64 by omega), Nat.mod_eq_of_lt (show b < 2 ^ 64 by omega)]
  exact wrap64 (Nat.xor_lt_two_pow ha (Nat.lt_of_le_of_lt Nat.and_le_left ha))
theorem xor_and_zero {a b : Nat} : a ^^^ (a &&& b) = 0 ↔ a &&& b = a := by
  constructor
  · intro h
    have : a ^^^ (a ^^^ (a &&& b)) = a ^^^ 0 := by rw [h]
    rwa [← Nat.xor_assoc, Nat.xor_self, Nat.zero_xor, Nat.xor_zero] at this
  · intro h; rw [h, Nat.xor_self]
theorem bandn_zero {a b : Int} (ha : 0 ≤ a ∧ a < 2 ^ 63) (hb : 0 ≤ b ∧ b < 2 ^ 63) : bandn .i64 a b = 0 ↔ band .i64 a b = a := by
  obtain ⟨a, rfl⟩ := Int.eq_ofNat_of_zero_le ha.1
  obtain ⟨b, rfl⟩ := Int.eq_ofNat_of_zero_le hb.1
  rw [bandn_nat (by omega) (by omega), band_nat (by omega) (by omega)]
  have := @xor_and_zero a b
  omega

def popF : Nat → Nat → Nat
  | 0, _ => 0
  | f + 1, n => n % 2 + popF f (n / 2)
def pop (n : Nat) : Nat := popF 64 n
def popI (s : Int) : Int := (pop s.toNat : Int)
theorem popF_zero : ∀ f, popF f 0 = 0
  | 0 => rfl
  | f + 1 => by simp [popF, popF_zero f]
theorem popF_enough : ∀ {f n : Nat}, n < 2 ^ f → popF (f + 1) n = popF f n
  | 0, n, h => by have : n = 0 := by simpa using h
                  subst this; rfl
  | f + 1, n, h => by
    have : n / 2 < 2 ^ f := by rw [Nat.pow_succ] at h; omega
    rw [popF, popF_enough this, popF]
theorem pop_step {n : Nat} (h : n < 2 ^ 64) : pop n = n % 2 + pop (n / 2) := by
  have : n / 2 < 2 ^ 63 := by omega
  unfold pop
  rw [popF, ← popF_enough this]
theorem pop_zero : pop 0 = 0 := popF_zero _
theorem popF_le : ∀ f n, popF f n ≤ f
  | 0, _ => Nat.le_refl _
  | f + 1, n => by have := popF_le f (n / 2); simp only [popF]; omega
theorem pop_le {n : Nat} : pop n ≤ 64 := popF_le _ _
theorem band_one {x : Int} (h : 0 ≤ x ∧ x < 2 ^ 63) : band .i64 x 1 = x % 2 := by
  obtain ⟨a, rfl⟩ := Int.eq_ofNat_of_zero_le h.1
  have := band_nat (a := a) (b := 1) (by omega) (by omega)
  rw [show ((1 : Nat) : Int) = 1 from rfl] at this
  rw [this, Nat.and_one_is_mod]; omega

theorem band_shr_one {S e : Nat} (h : S < 2 ^ 62) : band .i64 ((S : Int) / 2 ^ e) 1 = ((S / 2 ^ e % 2 : Nat) : Int) := by
  have h0 : S / 2 ^ e ≤ S := Nat.div_le_self _ _
  have e1 : (S : Int) / 2 ^ e = ((S / 2 ^ e : Nat) : Int) := by simp
  rw [e1]
  generalize S / 2 ^ e = q at *
  rw [band_one (by omega)]
  omega
/-- What has been put in, as bits. -/
theorem seen_bits {xs : List Int} (hx : ∀ i, i < xs.length → 0 ≤ xs.getD i 0 ∧ xs.getD i 0 ≤ 60) : ∀ {n : Nat}, n ≤ xs.length →
    ∃ S : Nat, seen (xs.take n) = S ∧ S < 2 ^ 61 ∧ ∀ e : Nat, S.testBit e = true ↔ ∃ j, j < n ∧ xs.getD j 0 = (e : Int)
  | 0, _ => ⟨0, rfl, by omega, fun e => by simp⟩
  | n + 1, h => by
    obtain ⟨S, h1, h2, h3⟩ := seen_bits hx (n := n) (by omega)
    have hn := hx n (by omega)
    obtain ⟨x, hxe⟩ := Int.eq_ofNat_of_zero_le hn.1
    have hp : (2 : Nat) ^ x < 2 ^ 61 := Nat.pow_lt_pow_right (by omega) (by omega)
    have ep : (1 : Int) * 2 ^ (xs.getD n 0).toNat = ((2 ^ x : Nat) : Int) := by rw [hxe]; simp
    refine ⟨S ||| 2 ^ x, ?_, Nat.or_lt_two_pow h2 hp, fun e => ?_⟩
    · rw [seen_succ (by omega), h1, orBit, ep, bor_nat (by omega) (by omega)]
    · rw [Nat.testBit_or, Bool.or_eq_true, h3, Nat.testBit_two_pow]
      constructor
      · rintro (⟨j, hj, he⟩ | he)
        · exact ⟨j, by omega, he⟩
        · exact ⟨n, by omega, by rw [hxe]; have : x = e := by simpa using he
                                 rw [this]⟩
      · rintro ⟨j, hj, he⟩
        by_cases e2 : j = n
        · subst e2; rw [hxe] at he
          have : x = e := by omega
          exact .inr (by simp [this])
        · exact .inl ⟨j, by omega, he⟩
theorem pig : ∀ (n : Nat) (l : List Nat), l.Nodup → (∀ x ∈ l, x < n) → l.length ≤ n
  | 0, [], _, _ => by simp
  | 0, x :: r, _, h => absurd (h x (by simp)) (by omega)
  | n + 1, l, hd, h => by
    by_cases hm : n ∈ l
    · have h1 := pig n (l.erase n) (hd.erase n) fun x hx => by
        rw [hd.mem_erase_iff] at hx
        have := h x hx.2
        omega
      rw [List.length_erase_of_mem hm] at h1
      omega
    · have := pig n l hd fun x hx => by
        have := h x hx
        have : x ≠ n := fun e => hm (e ▸ hx)
        omega
      omega
/-- An order has every element. -/
theorem perm_mem {xs : List Int} (h : permB xs.length xs = true) (h60 : xs.length ≤ 60) {e : Nat} (he : e < xs.length) : ∃ i, i < xs.length ∧ xs.getD i 0 = (e : Int) := by
  have hp := (permB_iff.1 h).2
  have hx : ∀ i, i < xs.length → 0 ≤ xs.getD i 0 ∧ xs.getD i 0 < xs.length := fun i hi => by
    have := hp i hi
    rw [okAt_iff, inB_t] at this
    omega
  have hd : ∀ i j, i < j → j < xs.length → xs.getD i 0 ≠ xs.getD j 0 := fun i j hij hj heq => by
    have := (okAt_iff.1 (hp j hj)).2
    obtain ⟨S, h1, h2, h3⟩ := seen_bits (xs := xs) (fun i hi => by have := hx i hi; omega) (n := j) (by omega)
    obtain ⟨x, hxe⟩ := Int.eq_ofNat_of_zero_le (hx j hj).1
    have hb := (h3 x).2 ⟨i, hij, by rw [heq, hxe]⟩
    rw [Nat.testBit_eq_decide_div_mod_eq, decide_eq_true_eq] at hb
    apply this
    rw [h1, hxe, Int.toNat_natCast, band_shr_one (by omega), hb]
    rfl
  by_cases hc : ∃ i, i < xs.length ∧ xs.getD i 0 = (e : Int)
  · exact hc
  · exfalso
    let l := xs.map Int.toNat
    have hl : ∀ i (hi : i < l.length), l[i] = (xs.getD i 0).toNat := fun i hi => by
      have : i < xs.length := by simpa [l] using hi
      simp only [l, List.getElem_map]; rw [getD_get this]
    have hln : l.length = xs.length := by simp [l]
    have nd : l.Nodup := by
      rw [List.Nodup, List.pairwise_iff_getElem]
      intro i j hi hj hij heq
      rw [hl i hi, hl j hj] at heq
      have h1 := hx i (by omega)
      have h2 := hx j (by omega)
      exact hd i j hij (by omega) (by omega)
    have ne : e ∉ l := fun hm => by
      obtain ⟨i, hi, heq⟩ := List.getElem_of_mem hm
      rw [hl i hi] at heq
      have h1 := hx i (by omega)
      exact hc ⟨i, by omega, by omega⟩
    have := pig xs.length (e :: l) (List.nodup_cons.2 ⟨ne, nd⟩) fun x hx' => by
      rcases List.mem_cons.1 hx' with rfl | hm
      · exact he
      · obtain ⟨i, hi, heq⟩ := List.getElem_of_mem hm
        rw [hl i hi] at heq
        have h1 := hx i (by omega)
        omega
    simp only [List.length_cons] at this
    omega

/-- For all indices below n. -/
def allN (n : Nat) (p : Nat → Bool) : Bool := (List.range n).all p
theorem allN_iff {n : Nat} {p : Nat → Bool} : allN n p = true ↔ ∀ i, i < n → p i = true := by simp [allN, List.all_eq_true]
theorem allN_t {n : Nat} {p : Nat → Bool} (h : ∀ i, i < n → p i = true) : allN n p = true := allN_iff.2 h
theorem allN_f {n : Nat} {p : Nat → Bool} (i : Nat) (hi : i < n) (h : p i = false) : allN n p = false := by
  cases hh : allN n p with
  | false => rfl
  | true => rw [allN_iff.1 hh i hi] at h; cases h
theorem allN_congr {n : Nat} {p q : Nat → Bool} (h : ∀ i, i < n → p i = q i) : allN n p = allN n q := by
  rw [Bool.eq_iff_iff, allN_iff, allN_iff]
  exact ⟨fun hh i hi => by rw [← h i hi]; exact hh i hi, fun hh i hi => by rw [h i hi]; exact hh i hi⟩
theorem and_f1 {a b : Bool} (h : a = false) : (a && b) = false := by simp [h]
theorem and_f2 {a b : Bool} (h : b = false) : (a && b) = false := by simp [h]
theorem and_tt {a b : Bool} (h : a = true) (h' : b = true) : (a && b) = true := by simp [h, h']
theorem upto_succ {p : Nat → Bool} {i : Nat} (h : ∀ k, k < i → p k = true) (hi : p i = true) : ∀ k, k < i + 1 → p k = true := fun k hk => by
  by_cases e : k = i
  · rw [e]; exact hi
  · exact h k (by omega)
theorem allN_succ {n : Nat} {p : Nat → Bool} : allN (n + 1) p = (allN n p && p n) := by
  rw [Bool.eq_iff_iff, Bool.and_eq_true, allN_iff, allN_iff]
  constructor
  · intro h; exact ⟨fun i hi => h i (by omega), h n (by omega)⟩
  · intro h; exact upto_succ h.1 h.2

/-- All elements, as bits. -/
def fullI (n : Int) : Int := 2 ^ n.toNat - 1
theorem full_bd {n : Int} (h : 0 ≤ n ∧ n ≤ 10) : 0 ≤ fullI n ∧ fullI n ≤ 1023 := by
  have h1 : (2 : Nat) ^ n.toNat ≤ 2 ^ 10 := Nat.pow_le_pow_right (by omega) (by omega)
  have h2 : 0 < (2 : Nat) ^ n.toNat := Nat.two_pow_pos _
  have e : ((2 ^ n.toNat : Nat) : Int) = 2 ^ n.toNat := by simp
  unfold fullI
  omega
theorem full_bd6 {n : Int} (h : 0 ≤ n ∧ n ≤ 6) : 0 ≤ fullI n ∧ fullI n ≤ 63 := by
  have h1 : (2 : Nat) ^ n.toNat ≤ 2 ^ 6 := Nat.pow_le_pow_right (by omega) (by omega)
  have h2 : 0 < (2 : Nat) ^ n.toNat := Nat.two_pow_pos _
  have e : ((2 ^ n.toNat : Nat) : Int) = 2 ^ n.toNat := by simp
  unfold fullI
  omega
def inS (n s : Int) : Bool := inB s 0 (fullI n)
/-- Sets of n elements. -/
def setsOk (n : Int) (xs : List Int) : Bool := inB n 0 6 && allN xs.length fun i => inS n (xs.getD i 0)
theorem setsOk_iff {n : Int} {xs : List Int} : setsOk n xs = true ↔ inB n 0 6 = true ∧ ∀ i, i < xs.length → inS n (xs.getD i 0) = true := by
  simp only [setsOk, Bool.and_eq_true, allN_iff]
theorem setsOk_bd {n : Int} {xs : List Int} (h : setsOk n xs = true) : (0 ≤ n ∧ n ≤ 6) ∧ ∀ i, i < xs.length → 0 ≤ xs.getD i 0 ∧ xs.getD i 0 ≤ 63 ∧ xs.getD i 0 ≤ fullI n := by
  rw [setsOk_iff, inB_t] at h
  have hf := full_bd6 h.1
  refine ⟨h.1, fun i hi => ?_⟩
  have := h.2 i hi
  rw [inS, inB_t] at this
  omega
def ascAt (xs : List Int) (i : Nat) : Bool := i == 0 || decide (xs.getD (i - 1) 0 < xs.getD i 0)
/-- A family: sets that ascend. -/
def famB (n : Int) (xs : List Int) : Bool := setsOk n xs && allN xs.length (ascAt xs)
theorem famB_iff {n : Int} {xs : List Int} : famB n xs = true ↔ setsOk n xs = true ∧ ∀ i, i < xs.length → ascAt xs i = true := by
  simp only [famB, Bool.and_eq_true, allN_iff]
theorem famB_f {n : Int} {xs : List Int} (h : ¬ (setsOk n xs = true ∧ ∀ i, i < xs.length → ascAt xs i = true)) : famB n xs = false := by
  rw [← famB_iff] at h; simpa using h
theorem famB_bd {n : Int} {xs : List Int} (h : famB n xs = true) : (0 ≤ n ∧ n ≤ 6) ∧ ∀ i, i < xs.length → 0 ≤ xs.getD i 0 ∧ xs.getD i 0 ≤ 63 ∧ xs.getD i 0 ≤ fullI n := setsOk_bd (famB_iff.1 h).1
theorem ascAt_iff {xs : List Int} {i : Nat} : ascAt xs i = true ↔ (i = 0 ∨ xs.getD (i - 1) 0 < xs.getD i 0) := by
  unfold ascAt
  generalize xs.getD (i - 1) 0 = a
  generalize xs.getD i 0 = b
  simp

def hitAt (xs : List Int) (s : Int) (i : Nat) : Prop := band .i64 (s / 2 ^ (xs.getD i 0).toNat) 1 = 1
instance {xs : List Int} {s : Int} {i : Nat} : Decidable (hitAt xs s i) := by unfold hitAt; infer_instance
def lastF (xs : List Int) (s : Int) : Nat → Int
  | 0 => -1
  | i + 1 => if hitAt xs s i then i else lastF xs s i
def firstF (xs : List Int) (s : Int) : Nat → Int
  | 0 => -1
  | i + 1 => if hitAt xs s i then (if firstF xs s i < 0 then i else firstF xs s i) else firstF xs s i
theorem lastF_t {xs : List Int} {s : Int} {i : Nat} (h : band .i64 (s / 2 ^ (xs.getD i 0).toNat) 1 = 1) : lastF xs s (i + 1) = (i : Int) := if_pos h
theorem lastF_f {xs : List Int} {s : Int} {i : Nat} (h : ¬ band .i64 (s / 2 ^ (xs.getD i 0).toNat) 1 = 1) : lastF xs s (i + 1) = lastF xs s i := if_neg h
theorem firstF_t {xs : List Int} {s : Int} {i : Nat} (h : band .i64 (s / 2 ^ (xs.getD i 0).toNat) 1 = 1) : firstF xs s (i + 1) = if firstF xs s i < 0 then (i : Int) else firstF xs s i := if_pos h
theorem firstF_f {xs : List Int} {s : Int} {i : Nat} (h : ¬ band .i64 (s / 2 ^ (xs.getD i 0).toNat) 1 = 1) : firstF xs s (i + 1) = firstF xs s i := if_neg h
theorem ends_bd {xs : List Int} {s : Int} : ∀ {n : Nat}, -1 ≤ firstF xs s n ∧ firstF xs s n < n + 1 ∧ -1 ≤ lastF xs s n ∧ lastF xs s n < n + 1
  | 0 => by simp [firstF, lastF]
  | n + 1 => by
    have := ends_bd (xs := xs) (s := s) (n := n)
    simp only [firstF, lastF]
    split
    · split <;> omega
    · omega
theorem first_hit {xs : List Int} {s : Int} : ∀ {n i : Nat}, i < n → hitAt xs s i → 0 ≤ firstF xs s n
  | 0, i, h, _ => by omega
  | n + 1, i, h, hh => by
    by_cases e : i = n
    · subst e; simp only [firstF]; rw [if_pos hh]; split <;> omega
    · have := first_hit (xs := xs) (s := s) (n := n) (i := i) (by omega) hh
      simp only [firstF]; split
      · split <;> omega
      · exact this
def wide (xs : List Int) (s : Int) : Bool := decide (lastF xs s xs.length - firstF xs s xs.length + 1 = popI s)
def ivlIn (xs : List Int) (s : Int) : Bool := ord6 xs && inB s 1 (fullI xs.length)
theorem ivl_first {xs : List Int} {s : Int} (h : ivlIn xs s = true) : 0 ≤ firstF xs s xs.length := by
  simp only [ivlIn, ord6, Bool.and_eq_true, decide_eq_true_eq, inB_t] at h
  obtain ⟨⟨h6, hp⟩, h1, h2⟩ := h
  have hf := full_bd6 (n := xs.length) (by omega)
  obtain ⟨S, rfl⟩ := Int.eq_ofNat_of_zero_le (a := s) (by omega)
  obtain ⟨e, he⟩ := Nat.exists_testBit_of_ne_zero (x := S) (by omega)
  have hS : S < 2 ^ xs.length := by
    have e2 : ((2 ^ xs.length : Nat) : Int) = 2 ^ ((xs.length : Int)).toNat := by simp
    unfold fullI at h2
    omega
  have hlt : e < xs.length := by
    by_cases hc : e < xs.length
    · exact hc
    · rw [Nat.testBit_lt_two_pow (Nat.lt_of_lt_of_le hS (Nat.pow_le_pow_right (by omega) (by omega)))] at he; cases he
  obtain ⟨i, hi, hie⟩ := perm_mem hp (by omega) hlt
  refine first_hit (i := i) hi ?_
  unfold hitAt
  rw [Nat.testBit_eq_decide_div_mod_eq, decide_eq_true_eq] at he
  rw [hie, Int.toNat_natCast, band_shr_one (by omega), he]
  rfl
def ivlOk (xs : List Int) (s : Int) : Bool := ivlIn xs s && wide xs s
def ivlA (xs : List Int) (s : Int) : Int := if ivlOk xs s = true then firstF xs s xs.length else 0
def ivlB (xs : List Int) (s : Int) : Int := if ivlOk xs s = true then lastF xs s xs.length else 0
theorem ivl_f {xs : List Int} {s : Int} (h : ivlOk xs s = false) : ivlA xs s = 0 ∧ ivlB xs s = 0 := by simp [ivlA, ivlB, h]
theorem ivl_t {xs : List Int} {s : Int} (h : ivlOk xs s = true) : ivlA xs s = firstF xs s xs.length ∧ ivlB xs s = lastF xs s xs.length := by simp [ivlA, ivlB, h]

def fitAt (xs order : List Int) (i : Nat) : Bool := decide (xs.getD i 0 = 0) || wide order (xs.getD i 0)
def fitB (xs order : List Int) : Bool := allN xs.length (fitAt xs order)
def ordF (n : Int) (order : List Int) : Bool := permB n order
theorem ordF_eq {n : Int} {order : List Int} (hn : 0 ≤ n ∧ n ≤ 6) : (decide ((order.length : Int) = n) && ord6 order) = permB n order := by
  rw [Bool.eq_iff_iff, Bool.and_eq_true, decide_eq_true_iff]
  constructor
  · rintro ⟨h1, h2⟩
    simp only [ord6, Bool.and_eq_true] at h2
    rw [← h1]; exact h2.2
  · intro h
    have h1 := (permB_iff.1 h).1
    refine ⟨h1, ?_⟩
    rw [← h1] at h
    simp only [ord6, Bool.and_eq_true, decide_eq_true_eq]
    exact ⟨by omega, h⟩
theorem perm_in {n : Int} {order : List Int} (hn : 0 ≤ n ∧ n ≤ 6) (h : permB n order = true) : order.length ≤ 6 ∧ (order.length : Int) = n ∧ ord6 order = true ∧ ∀ i, i < order.length → 0 ≤ order.getD i 0 ∧ order.getD i 0 < 6 := by
  rw [← ordF_eq hn, Bool.and_eq_true, decide_eq_true_iff] at h
  have := ord6_t h.2
  exact ⟨this.1, h.1, h.2, this.2⟩
theorem fit_first {n s : Int} {order : List Int} (hn : 0 ≤ n ∧ n ≤ 6) (h : permB n order = true) (hs : 0 ≤ s ∧ s ≤ fullI n) (h0 : ¬ s = 0) : 0 ≤ firstF order s order.length := by
  have hp := perm_in hn h
  refine ivl_first (s := s) ?_
  rw [ivlIn, hp.2.2.1, Bool.true_and, inB_t, hp.2.1]
  omega

/-- Ascending, each once. -/
def Asc (l : List Int) : Prop := l.Pairwise (· < ·)
theorem asc_nil : Asc [] := List.Pairwise.nil
theorem asc_ext : ∀ {l m : List Int}, Asc l → Asc m → (∀ y, y ∈ l ↔ y ∈ m) → l = m
  | [], [], _, _, _ => rfl
  | [], b :: m, _, _, h => absurd ((h b).2 List.mem_cons_self) (by simp)
  | a :: l, [], _, _, h => absurd ((h a).1 List.mem_cons_self) (by simp)
  | a :: l, b :: m, hl, hm, h => by
    rw [Asc, List.pairwise_cons] at hl hm
    have hab : a = b := by
      have h1 := (h a).1 List.mem_cons_self
      have h2 := (h b).2 List.mem_cons_self
      rw [List.mem_cons] at h1 h2
      rcases h1 with h1 | h1
      · exact h1
      · rcases h2 with h2 | h2
        · exact h2.symm
        · have := hl.1 b h2
          have := hm.1 a h1
          omega
    subst hab
    congr 1
    refine asc_ext hl.2 hm.2 fun y => ?_
    have hy := h y
    rw [List.mem_cons, List.mem_cons] at hy
    constructor
    · intro h1
      rcases hy.1 (.inr h1) with h2 | h2
      · have := hl.1 y h1; omega
      · exact h2
    · intro h1
      rcases hy.2 (.inr h1) with h2 | h2
      · have := hm.1 y h1; omega
      · exact h2
/-- Where a number goes: behind those that are not greater. -/
def posF (xs : List Int) (x : Int) : Nat → Nat
  | 0 => 0
  | k + 1 => if x < xs.getD k 0 then posF xs x k else k + 1
def posL (xs : List Int) (x : Int) : Nat := posF xs x xs.length
theorem posF_t {xs : List Int} {x : Int} {k : Nat} (h : x < xs.getD k 0) : posF xs x (k + 1) = posF xs x k := if_pos h
theorem posF_f {xs : List Int} {x : Int} {k : Nat} (h : ¬ x < xs.getD k 0) : posF xs x (k + 1) = k + 1 := if_neg h
theorem posF_le {xs : List Int} {x : Int} : ∀ {k : Nat}, posF xs x k ≤ k
  | 0 => Nat.le_refl _
  | k + 1 => by
    have := posF_le (xs := xs) (x := x) (k := k)
    simp only [posF]; split <;> omega
theorem posF_above {xs : List Int} {x : Int} : ∀ {k j : Nat}, posF xs x k ≤ j → j < k → x < xs.getD j 0
  | 0, j, _, h => by omega
  | k + 1, j, h1, h2 => by
    by_cases h : x < xs.getD k 0
    · rw [posF_t h] at h1
      by_cases e : j = k
      · subst e; exact h
      · exact posF_above h1 (by omega)
    · rw [posF_f h] at h1; omega
theorem posF_at {xs : List Int} {x : Int} : ∀ {k : Nat}, 0 < posF xs x k → xs.getD (posF xs x k - 1) 0 ≤ x
  | 0, h => by simp [posF] at h
  | k + 1, h => by
    by_cases h1 : x < xs.getD k 0
    · rw [posF_t h1] at h ⊢; exact posF_at h
    · rw [posF_f h1]; simpa using h1
def hasP (xs : List Int) (x : Int) : Bool := decide (0 < posL xs x) && decide (xs.getD (posL xs x - 1) 0 = x)
def putL (xs : List Int) (x : Int) : List Int := if hasP xs x = true then xs else xs.take (posL xs x) ++ [x] ++ xs.drop (posL xs x)
theorem putL_t {xs : List Int} {x : Int} (h : hasP xs x = true) : putL xs x = xs := if_pos h
theorem putL_f {xs : List Int} {x : Int} (h : hasP xs x = false) : putL xs x = xs.take (posL xs x) ++ [x] ++ xs.drop (posL xs x) := if_neg (by simp [h])
theorem putL_len {xs : List Int} {x : Int} : (putL xs x).length ≤ xs.length + 1 := by
  unfold putL; split
  · omega
  · simp; omega
theorem mem_getD {xs : List Int} {y : Int} : y ∈ xs ↔ ∃ i, i < xs.length ∧ xs.getD i 0 = y := by
  rw [List.mem_iff_getElem]
  constructor
  · rintro ⟨i, h, e⟩; exact ⟨i, h, by rw [getD_get h]; exact e⟩
  · rintro ⟨i, h, e⟩; exact ⟨i, h, by rw [getD_get h] at e; exact e⟩
theorem putL_mem {xs : List Int} {x y : Int} : y ∈ putL xs x ↔ y = x ∨ y ∈ xs := by
  by_cases h : hasP xs x = true
  · rw [putL_t h]
    constructor
    · exact .inr
    · rintro (e | e)
      · subst e
        simp only [hasP, Bool.and_eq_true, decide_eq_true_eq] at h
        have := posF_le (xs := xs) (x := y) (k := xs.length)
        exact mem_getD.2 ⟨posL xs y - 1, by unfold posL at *; omega, h.2⟩
      · exact e
  · rw [putL_f (by simpa using h)]
    have e : y ∈ xs ↔ y ∈ xs.take (posL xs x) ∨ y ∈ xs.drop (posL xs x) := by
      rw [← List.mem_append, List.take_append_drop]
    rw [e]
    simp only [List.mem_append, List.mem_singleton]
    constructor
    · rintro ((h1 | h1) | h1)
      · exact .inr (.inl h1)
      · exact .inl h1
      · exact .inr (.inr h1)
    · rintro (h1 | h1 | h1)
      · exact .inl (.inr h1)
      · exact .inl (.inl h1)
      · exact .inr h1
theorem asc_get {xs : List Int} (h : Asc xs) {i j : Nat} (hij : i < j) (hj : j < xs.length) : xs.getD i 0 < xs.getD j 0 := by
  rw [getD_get (by omega), getD_get hj]
  exact List.pairwise_iff_getElem.1 h i j (by omega) hj hij
theorem asc_of {xs : List Int} (h : ∀ i j, i < j → j < xs.length → xs.getD i 0 < xs.getD j 0) : Asc xs := by
  rw [Asc, List.pairwise_iff_getElem]
  intro i j hi hj hij
  have := h i j hij hj
  rwa [getD_get hi, getD_get hj] at this
theorem putL_asc {xs : List Int} {x : Int} (h : Asc xs) : Asc (putL xs x) := by
  by_cases hp : hasP xs x = true
  · rw [putL_t hp]; exact h
  · rw [putL_f (by simpa using hp)]
    have hle := posF_le (xs := xs) (x := x) (k := xs.length)
    have habove : ∀ j, posL xs x ≤ j → j < xs.length → x < xs.getD j 0 := fun j h1 h2 => posF_above h1 h2
    have hbelow : ∀ j, j < posL xs x → xs.getD j 0 < x := fun j hj => by
      have h0 : 0 < posL xs x := by omega
      have h1 : xs.getD (posL xs x - 1) 0 ≤ x := posF_at h0
      have hne : ¬ xs.getD (posL xs x - 1) 0 = x := fun e => hp (by simp only [hasP, e, h0, decide_true, Bool.and_self])
      by_cases e : j = posL xs x - 1
      · subst e; omega
      · have := asc_get h (i := j) (j := posL xs x - 1) (by omega) (by unfold posL at *; omega)
        omega
    have htl : ∀ y, y ∈ xs.take (posL xs x) → y < x := fun y hy => by
      obtain ⟨i, hi, rfl⟩ := List.mem_iff_getElem.1 hy
      rw [List.length_take] at hi
      rw [List.getElem_take]
      have := hbelow i (by omega)
      rwa [getD_get (by omega)] at this
    have hdr : ∀ y, y ∈ xs.drop (posL xs x) → x < y := fun y hy => by
      obtain ⟨i, hi, rfl⟩ := List.mem_iff_getElem.1 hy
      rw [List.length_drop] at hi
      rw [List.getElem_drop]
      have := habove (posL xs x + i) (by omega) (by omega)
      rwa [getD_get (by omega)] at this
    rw [Asc, List.pairwise_append, List.pairwise_append]
    refine ⟨⟨List.Pairwise.sublist (List.take_sublist _ _) h, List.pairwise_singleton _ _, fun a ha b hb => by simp only [List.mem_singleton] at hb; subst hb; exact htl a ha⟩, List.Pairwise.sublist (List.drop_sublist _ _) h, fun a ha b hb => ?_⟩
    have h2 := hdr b hb
    rw [List.mem_append] at ha
    rcases ha with ha | ha
    · have := htl a ha; omega
    · simp only [List.mem_singleton] at ha; subst ha; exact h2

abbrev LL := List (List Int)
/-- One more element behind, in all ways. -/
def extF (p : List Int) : Nat → List (List Int)
  | 0 => []
  | e + 1 => if (e : Int) ∈ p then extF p e else extF p e ++ [p ++ [(e : Int)]]
theorem extF_t {p : List Int} {e : Nat} (h : (e : Int) ∈ p) : extF p (e + 1) = extF p e := if_pos h
theorem extF_f {p : List Int} {e : Nat} (h : ¬ (e : Int) ∈ p) : extF p (e + 1) = extF p e ++ [p ++ [(e : Int)]] := if_neg h
theorem extF_len {p : List Int} : ∀ {n : Nat}, (extF p n).length ≤ n
  | 0 => Nat.le_refl _
  | n + 1 => by
    have := extF_len (p := p) (n := n)
    simp only [extF]; split
    · omega
    · simp; omega
theorem extF_mem {p q : List Int} : ∀ {n : Nat}, q ∈ extF p n ↔ ∃ e : Nat, e < n ∧ ¬ (e : Int) ∈ p ∧ q = p ++ [(e : Int)]
  | 0 => by simp [extF]
  | n + 1 => by
    have ih := extF_mem (p := p) (q := q) (n := n)
    by_cases h : (n : Int) ∈ p
    · rw [extF_t h, ih]
      constructor
      · rintro ⟨e, h1, h2⟩; exact ⟨e, by omega, h2⟩
      · rintro ⟨e, h1, h2, h3⟩
        by_cases he : e = n
        · subst he; exact absurd h h2
        · exact ⟨e, by omega, h2, h3⟩
    · rw [extF_f h, List.mem_append, ih, List.mem_singleton]
      constructor
      · rintro (⟨e, h1, h2⟩ | rfl)
        · exact ⟨e, by omega, h2⟩
        · exact ⟨n, by omega, h, rfl⟩
      · rintro ⟨e, h1, h2, h3⟩
        by_cases he : e = n
        · subst he; exact .inr h3
        · exact .inl ⟨e, by omega, h2, h3⟩
def stepF (n : Nat) (ls : List (List Int)) : List (List Int) := ls.flatMap fun p => extF p n
theorem stepF_len {n : Nat} : ∀ {ls : List (List Int)}, (stepF n ls).length ≤ ls.length * n
  | [] => by simp [stepF]
  | p :: r => by
    have h1 := extF_len (p := p) (n := n)
    have h2 := stepF_len (n := n) (ls := r)
    simp only [stepF, List.flatMap_cons, List.length_append, List.length_cons] at h2 ⊢
    rw [Nat.add_mul]; omega
def iterF (n : Nat) : Nat → List (List Int)
  | 0 => [[]]
  | k + 1 => stepF n (iterF n k)
theorem iterF_len {n : Nat} (hn : n ≤ 6) : ∀ {k : Nat}, (iterF n k).length ≤ 6 ^ k
  | 0 => by simp [iterF]
  | k + 1 => by
    have h1 := stepF_len (n := n) (ls := iterF n k)
    have h2 := iterF_len hn (k := k)
    have h3 : (iterF n k).length * n ≤ 6 ^ k * 6 := Nat.mul_le_mul h2 hn
    simp only [iterF]
    rw [Nat.pow_succ]; omega
theorem iterF_len6 {n : Nat} (hn : n ≤ 6) {k : Nat} (hk : k ≤ 6) : (iterF n k).length ≤ 46656 := by
  have h1 := iterF_len hn (k := k)
  have h2 : 6 ^ k ≤ 6 ^ 6 := Nat.pow_le_pow_right (by omega) hk
  omega
/-- Those that go on from p by f elements. -/
def ordL (n : Nat) : Nat → List Int → List (List Int)
  | 0, p => [p]
  | f + 1, p => (extF p n).flatMap (ordL n f)
theorem ordL_step {n : Nat} : ∀ {f : Nat} {p : List Int}, ordL n (f + 1) p = (ordL n f p).flatMap fun q => extF q n
  | 0, p => by simp [ordL, List.flatMap_singleton']
  | f + 1, p => by
    have e : (ordL n (f + 1)) = fun q => (ordL n f q).flatMap fun q => extF q n := funext fun q => ordL_step
    show (extF p n).flatMap (ordL n (f + 1)) = ((extF p n).flatMap (ordL n f)).flatMap _
    rw [e, List.flatMap_assoc]
theorem iter_ord {n : Nat} : ∀ {k : Nat}, iterF n k = ordL n k []
  | 0 => rfl
  | k + 1 => by rw [iterF, stepF, iter_ord, ordL_step]
theorem flat_len {g : List Int → List (List Int)} {m : Nat} (h : ∀ q, (g q).length ≤ m) : ∀ {ls : List (List Int)}, (ls.flatMap g).length ≤ ls.length * m
  | [] => by simp
  | p :: r => by
    have h1 := h p
    have h2 := flat_len h (ls := r)
    simp only [List.flatMap_cons, List.length_append, List.length_cons]
    rw [Nat.add_mul]; omega
theorem ordL_len {n : Nat} (hn : n ≤ 6) : ∀ {f : Nat} {p : List Int}, (ordL n f p).length ≤ 6 ^ f
  | 0, p => by simp [ordL]
  | f + 1, p => by
    have h1 := flat_len (g := ordL n f) (m := 6 ^ f) (fun q => ordL_len hn) (ls := extF p n)
    have h2 := extF_len (p := p) (n := n)
    have h3 : (extF p n).length * 6 ^ f ≤ 6 * 6 ^ f := Nat.mul_le_mul_right _ (by omega)
    show ((extF p n).flatMap (ordL n f)).length ≤ 6 ^ (f + 1)
    rw [Nat.pow_succ]; omega
theorem ordL_len6 {n : Nat} (hn : n ≤ 6) {f : Nat} (hf : f ≤ 6) {p : List Int} : (ordL n f p).length ≤ 46656 := by
  have h1 := ordL_len hn (f := f) (p := p)
  have h2 : 6 ^ f ≤ 6 ^ 6 := Nat.pow_le_pow_right (by omega) hf
  omega
def Dist (n : Nat) (p : List Int) : Prop := p.Nodup ∧ ∀ x, x ∈ p → 0 ≤ x ∧ x < n
theorem dist_snoc {n : Nat} {p : List Int} (h : Dist n p) {e : Nat} (he : e < n) (hm : ¬ (e : Int) ∈ p) : Dist n (p ++ [(e : Int)]) := by
  refine ⟨?_, fun x hx => ?_⟩
  · rw [List.nodup_append]
    refine ⟨h.1, by simp, fun a ha b hb hab => ?_⟩
    simp only [List.mem_singleton] at hb
    subst hb; subst hab; exact hm ha
  · rw [List.mem_append, List.mem_singleton] at hx
    rcases hx with hx | rfl
    · exact h.2 x hx
    · omega
theorem ordL_dist {n : Nat} : ∀ {f : Nat} {p q : List Int}, q ∈ ordL n f p → Dist n p → q.length = p.length + f ∧ Dist n q
  | 0, p, q, h, hd => by simp only [ordL, List.mem_singleton] at h; subst h; exact ⟨rfl, hd⟩
  | f + 1, p, q, h, hd => by
    rw [ordL, List.mem_flatMap] at h
    obtain ⟨r, hr, hq⟩ := h
    obtain ⟨e, he, hm, rfl⟩ := extF_mem.1 hr
    obtain ⟨h1, h2⟩ := ordL_dist hq (dist_snoc hd he hm)
    refine ⟨?_, h2⟩
    simp only [List.length_append, List.length_cons, List.length_nil] at h1
    omega
theorem iterF_dist {n k : Nat} {q : List Int} (h : q ∈ iterF n k) : q.length = k ∧ Dist n q := by
  rw [iter_ord] at h
  have := ordL_dist h ⟨by simp, by simp⟩
  simpa using this
theorem dist_perm {n : Nat} {p : List Int} (hn : n ≤ 6) (hl : p.length = n) (hd : Dist n p) : permB p.length p = true := by
  have hx : ∀ i, i < p.length → 0 ≤ p.getD i 0 ∧ p.getD i 0 < n := fun i hi => hd.2 _ (mem_getD.2 ⟨i, hi, rfl⟩)
  refine permB_iff.2 ⟨rfl, fun i hi => ?_⟩
  rw [okAt_iff, inB_t]
  have h1 := hx i hi
  refine ⟨by omega, fun hb => ?_⟩
  obtain ⟨S, e1, e2, e3⟩ := seen_bits (xs := p) (fun j hj => by have := hx j hj; omega) (n := i) (by omega)
  obtain ⟨x, hxe⟩ := Int.eq_ofNat_of_zero_le h1.1
  rw [e1, hxe, Int.toNat_natCast, band_shr_one (by omega)] at hb
  have ht : S.testBit x = true := by
    rw [Nat.testBit_eq_decide_div_mod_eq, decide_eq_true_eq]
    omega
  obtain ⟨j, hj, hje⟩ := (e3 x).1 ht
  have hne := List.pairwise_iff_getElem.1 hd.1 j i (by omega) hi hj
  apply hne
  rw [← getD_get (by omega), ← getD_get hi, hje, hxe]
theorem iterF_perm {n : Nat} {q : List Int} (hn : n ≤ 6) (h : q ∈ iterF n n) : q.length = n ∧ permB q.length q = true := by
  have := iterF_dist h
  exact ⟨this.1, dist_perm hn this.1 this.2⟩
theorem getR_mem {ls : List (List Int)} {i : Nat} (h : i < ls.length) : ls.getD i [] ∈ ls := by
  rw [List.getD_eq_getElem?_getD, List.getElem?_eq_getElem h]; exact List.getElem_mem h
theorem take_succR {ls : List (List Int)} {i : Nat} (h : i < ls.length) : ls.take (i + 1) = ls.take i ++ [ls.getD i []] := by
  rw [List.take_add_one, List.getElem?_eq_getElem h, List.getD_eq_getElem?_getD, List.getElem?_eq_getElem h]; rfl
theorem step_take {n : Nat} {ls : List (List Int)} {i : Nat} (h : i < ls.length) : stepF n (ls.take (i + 1)) = stepF n (ls.take i) ++ extF (ls.getD i []) n := by
  rw [take_succR h, stepF, List.flatMap_append]; simp [stepF]
theorem step_bd {n : Nat} {ls : List (List Int)} {i : Nat} : (stepF n (ls.take i)).length ≤ ls.length * n := by
  have h1 := stepF_len (n := n) (ls := ls.take i)
  have h2 : (ls.take i).length ≤ ls.length := by rw [List.length_take]; omega
  have := Nat.mul_le_mul_right n h2
  omega
/-- How many orders fit, and the first one. -/
def cntO (xs : List Int) (ls : List (List Int)) : Nat := (ls.filter fun p => fitB xs p).length
theorem cntO_t {xs : List Int} {ls : List (List Int)} {i : Nat} (h : i < ls.length) (hf : fitB xs (ls.getD i []) = true) : cntO xs (ls.take (i + 1)) = cntO xs (ls.take i) + 1 := by
  rw [take_succR h, cntO, List.filter_append, List.length_append, List.filter_cons_of_pos (by exact hf)]; rfl
theorem cntO_f {xs : List Int} {ls : List (List Int)} {i : Nat} (h : i < ls.length) (hf : fitB xs (ls.getD i []) = false) : cntO xs (ls.take (i + 1)) = cntO xs (ls.take i) := by
  rw [take_succR h, cntO, List.filter_append, List.length_append, List.filter_cons_of_neg (by rw [hf]; decide)]; rfl
theorem cntO_le {xs : List Int} {ls : List (List Int)} : cntO xs ls ≤ ls.length := List.length_filter_le _ _
def cioI (n : Int) (xs : List Int) : Int := if famB n xs = true then (cntO xs (iterF n.toNat n.toNat) : Int) else -1
def ioO (n : Int) (xs : List Int) : Option (List Int) := if famB n xs = true then (iterF n.toNat n.toNat).find? (fun p => fitB xs p) else none
theorem find_at {xs : List Int} {ls : List (List Int)} {i : Nat} (h : i < ls.length) (hf : fitB xs (ls.getD i []) = true) (hn : ∀ j, j < i → fitB xs (ls.getD j []) = false) : ls.find? (fun p => fitB xs p) = some (ls.getD i []) := by
  rw [List.find?_eq_some_iff_getElem]
  refine ⟨hf, i, h, ?_, fun j hj => ?_⟩
  · rw [List.getD_eq_getElem?_getD, List.getElem?_eq_getElem h]; rfl
  · have := hn j hj
    rw [List.getD_eq_getElem?_getD, List.getElem?_eq_getElem (by omega)] at this
    simpa using this
theorem find_no {xs : List Int} {ls : List (List Int)} (hn : ∀ j, j < ls.length → fitB xs (ls.getD j []) = false) : ls.find? (fun p => fitB xs p) = none := by
  rw [List.find?_eq_none]
  intro p hp
  obtain ⟨j, hj, rfl⟩ := List.getElem_of_mem hp
  have := hn j hj
  rw [List.getD_eq_getElem?_getD, List.getElem?_eq_getElem hj] at this
  simpa using this
def opL' : Option (List Int) → List Int
  | some x => x
  | none => []
def opB' : Option (List Int) → Bool
  | some _ => true
  | none => false
theorem ioL_len {n : Int} {xs : List Int} : (opL' (ioO n xs)).length ≤ 6 := by
  unfold ioO
  split
  · rename_i h
    have hb := (famB_bd h).1
    cases hf : (iterF n.toNat n.toNat).find? (fun p => fitB xs p) with
    | none => simp [opL']
    | some p =>
      have hm := List.mem_of_find?_eq_some hf
      have := (iterF_dist hm).1
      simp only [opL']; omega
  · simp [opL']
theorem both {p X : Prop} (h : X) : (p → X) ∧ (¬ p → X) := ⟨fun _ => h, fun _ => h⟩
theorem rows_of_get {xs ys : LL} (h : xs.length = ys.length) (h2 : ∀ k, k < xs.length → xs.getD k [] = ys.getD k []) : xs = ys := by
  refine List.ext_getElem h fun k h1 h3 => ?_
  have := h2 k h1
  rwa [List.getD_eq_getElem?_getD, List.getD_eq_getElem?_getD, List.getElem?_eq_getElem h1, List.getElem?_eq_getElem h3] at this

/-- One more element: each chain becomes two (one, if it has one set). -/
def symT (b : Int) (c : List Int) : List (List Int) := (c ++ [bor .i64 (c.getD (c.length - 1) 0) b]) :: (if c.length = 1 then [] else [(c.take (c.length - 1)).map fun s => bor .i64 s b])
def symS (b : Int) (L : List (List Int)) : List (List Int) := L.flatMap (symT b)
def symF : Nat → List (List Int)
  | 0 => [[0]]
  | e + 1 => symS (1 * 2 ^ e) (symF e)
theorem symT_len {b : Int} {c : List Int} : (symT b c).length ≤ 2 := by unfold symT; split <;> simp
theorem symS_len {b : Int} : ∀ {L : List (List Int)}, (symS b L).length ≤ 2 * L.length
  | [] => by simp [symS]
  | c :: r => by
    have h1 := symT_len (b := b) (c := c)
    have h2 := symS_len (b := b) (L := r)
    simp only [symS, List.flatMap_cons, List.length_append, List.length_cons] at h2 ⊢
    omega
theorem symF_len : ∀ {e : Nat}, (symF e).length ≤ 2 ^ e
  | 0 => by simp [symF]
  | e + 1 => by
    have h1 := symS_len (b := 1 * 2 ^ e) (L := symF e)
    have h2 := symF_len (e := e)
    simp only [symF]
    rw [Nat.pow_succ]; omega
theorem symF_row : ∀ {e : Nat} {c : List Int}, c ∈ symF e → 1 ≤ c.length ∧ c.length ≤ e + 1
  | 0, c, h => by simp only [symF, List.mem_singleton] at h; subst h; simp
  | e + 1, c, h => by
    simp only [symF, symS, List.mem_flatMap] at h
    obtain ⟨d, hd, hc⟩ := h
    have ih := symF_row hd
    unfold symT at hc
    split at hc
    · simp only [List.mem_singleton] at hc; subst hc; simp; omega
    · simp only [List.mem_cons, List.not_mem_nil, or_false] at hc
      rcases hc with rfl | rfl
      · simp; omega
      · simp; omega
theorem symS_take {b : Int} {L : List (List Int)} {i : Nat} (h : i < L.length) : symS b (L.take (i + 1)) = symS b (L.take i) ++ symT b (L.getD i []) := by
  rw [take_succR h, symS, List.flatMap_append]; simp [symS]
def scO (n : Int) : List (List Int) := if inB n 0 6 = true then symF n.toNat else []
theorem scO_len {n : Int} : (scO n).length ≤ 64 := by
  unfold scO; split
  · rename_i h
    rw [inB_t] at h
    have h1 := symF_len (e := n.toNat)
    have h2 : 2 ^ n.toNat ≤ 2 ^ 6 := Nat.pow_le_pow_right (by omega) (by omega)
    omega
  · simp

def headsB (L : List (List Int)) : Bool := decide ((L.map fun l => l.getD 0 0).Nodup)
theorem symHeads : ((List.range 7).all fun n => headsB (symF n)) = true := by decide +kernel
theorem scO_ne {n : Int} {i : Nat} (hi : i < (scO n).length) : 0 < ((scO n).getD i []).length := by
  have hm := getR_mem hi
  unfold scO at hm hi ⊢
  split at hm
  · rename_i h
    rw [if_pos h] at hi ⊢
    exact (symF_row (getR_mem hi)).1
  · cases hm
theorem heads_inj {L : List (List Int)} (h : (L.map fun l => l.getD 0 0).Nodup) {i j : Nat} (hi : i < L.length) (hj : j < L.length) (he : (L.getD i []).getD 0 0 = (L.getD j []).getD 0 0) : i = j := by
  have hp := List.pairwise_iff_getElem.1 h
  have e : ∀ k (hk : k < L.length), (L.map fun l => l.getD 0 0)[k]'(by rw [List.length_map]; exact hk) = (L.getD k []).getD 0 0 := fun k hk => by
    rw [List.getElem_map, List.getD_eq_getElem?_getD (l := L), List.getElem?_eq_getElem hk]; rfl
  rcases Nat.lt_trichotomy i j with hlt | heq | hgt
  · exact absurd (by rw [e i hi, e j hj]; exact he) (hp i j (by rw [List.length_map]; exact hi) (by rw [List.length_map]; exact hj) hlt)
  · exact heq
  · exact absurd (by rw [e i hi, e j hj]; exact he.symm) (hp j i (by rw [List.length_map]; exact hj) (by rw [List.length_map]; exact hi) hgt)
theorem scO_hd {n : Int} {i j : Nat} (hi : i < (scO n).length) (hj : j < (scO n).length) (he : ((scO n).getD i []).getD 0 0 = ((scO n).getD j []).getD 0 0) : i = j := by
  refine heads_inj ?_ hi hj he
  unfold scO
  split
  · rename_i h
    rw [inB_t] at h
    have := List.all_eq_true.1 symHeads n.toNat (by rw [List.mem_range]; omega)
    simpa [headsB] using this
  · simp

/-- n numbers from k on. -/
def iotaI (k : Int) (n : Nat) : List Int := (List.range n).map fun (i : Nat) => k + (i : Int)
theorem iotaI_len {k : Int} {n : Nat} : (iotaI k n).length = n := by simp [iotaI]
theorem iotaI_get {k : Int} {n i : Nat} (h : i < n) : (iotaI k n).getD i 0 = k + i := by
  rw [List.getD_eq_getElem?_getD, iotaI, List.getElem?_map, List.getElem?_range h]; rfl
theorem iotaI_succ {k : Int} {n : Nat} : iotaI k (n + 1) = iotaI k n ++ [k + n] := by
  simp [iotaI, List.range_succ]
theorem mark_step {xs : List Int} {k : Int} {i : Nat} (h : i < xs.length) : (iotaI k i ++ xs.drop i).set i (k + i) = iotaI k (i + 1) ++ xs.drop (i + 1) := by
  rw [List.set_append_right _ _ (by rw [iotaI_len]; exact Nat.le_refl _), iotaI_len, Nat.sub_self, List.drop_eq_getElem_cons h, List.set_cons_zero, iotaI_succ, List.append_assoc]; rfl
/-- What is read back: the next number, if they are all there. -/
def heldI (xs : List Int) (k : Int) : Int := if xs = iotaI k xs.length then k + xs.length else -1
theorem heldI_f {xs : List Int} {k : Int} {i : Nat} (hi : i < xs.length) (h : ¬ xs.getD i 0 = k + i) : heldI xs k = -1 := by
  rw [heldI, if_neg]
  intro e
  have := iotaI_get (k := k) (n := xs.length) hi
  rw [← e] at this
  exact h this
theorem heldI_t {xs : List Int} {k : Int} (h : ∀ i, i < xs.length → xs.getD i 0 = k + i) : heldI xs k = k + xs.length := by
  rw [heldI, if_pos]
  exact eq_of_get iotaI_len.symm fun i hi => by rw [h i hi, iotaI_get hi]
theorem heldI_iota {k : Int} {n : Nat} : heldI (iotaI k n) k = k + n := by rw [heldI, iotaI_len, if_pos rfl]

/-- The numbers of a list of rows, marked one behind the other. -/
def gTot : LL → Nat
  | [] => 0
  | l :: r => l.length + gTot r
def gMk : Int → LL → LL
  | _, [] => []
  | k, l :: r => iotaI k l.length :: gMk (k + l.length) r
theorem gTot_app : ∀ {ls ms : LL}, gTot (ls ++ ms) = gTot ls + gTot ms
  | [], ms => by simp [gTot]
  | l :: r, ms => by
    have := gTot_app (ls := r) (ms := ms)
    simp only [List.cons_append, gTot]; omega
theorem gMk_len : ∀ {ls : LL} {k : Int}, (gMk k ls).length = ls.length
  | [], k => rfl
  | l :: r, k => by simp only [gMk, List.length_cons, gMk_len]
theorem gMk_snoc : ∀ {ls : LL} {k : Int} {l : List Int}, gMk k (ls ++ [l]) = gMk k ls ++ [iotaI (k + gTot ls) l.length]
  | [], k, l => by simp [gMk, gTot]
  | m :: r, k, l => by
    have := gMk_snoc (ls := r) (k := k + m.length) (l := l)
    simp only [List.cons_append, gMk, this, gTot]
    rw [show k + (m.length : Int) + (gTot r : Int) = k + ((m.length + gTot r : Nat) : Int) by omega]
def gSt (k : Int) (ls : LL) (i : Nat) : LL := gMk k (ls.take i) ++ ls.drop i
theorem gSt_len {k : Int} {ls : LL} {i : Nat} : (gSt k ls i).length = ls.length := by
  rw [gSt, List.length_append, gMk_len, List.length_take, List.length_drop]; omega
theorem gSt_get {k : Int} {ls : LL} {i : Nat} (h : i < ls.length) : (gSt k ls i).getD i [] = ls.getD i [] := by
  have e : (gMk k (ls.take i)).length = i := by rw [gMk_len, List.length_take]; omega
  rw [gSt, List.getD_eq_getElem?_getD, List.getElem?_append_right (by omega), e, Nat.sub_self, List.getElem?_drop, List.getD_eq_getElem?_getD]; rfl
theorem gSt_set {k : Int} {ls : LL} {i : Nat} (h : i < ls.length) : (gSt k ls i).set i (iotaI (k + gTot (ls.take i)) (ls.getD i []).length) = gSt k ls (i + 1) := by
  have e : (gMk k (ls.take i)).length = i := by rw [gMk_len, List.length_take]; omega
  rw [gSt, gSt, take_succR h, gMk_snoc, List.set_append_right _ _ (by omega), e, Nat.sub_self, List.drop_eq_getElem_cons h, List.set_cons_zero, List.append_assoc]; rfl
theorem gTot_take {ls : LL} {i : Nat} (h : i < ls.length) : gTot (ls.take (i + 1)) = gTot (ls.take i) + (ls.getD i []).length := by
  rw [take_succR h, gTot_app]; simp [gTot]
theorem gTot_drop {ls : LL} {i : Nat} (h : i < ls.length) : gTot (ls.drop i) = (ls.getD i []).length + gTot (ls.drop (i + 1)) := by
  rw [List.drop_eq_getElem_cons h, List.getD_eq_getElem?_getD, List.getElem?_eq_getElem h]; rfl
theorem gTot_le {ls : LL} {i : Nat} : gTot (ls.take i) ≤ gTot ls := by
  have := gTot_app (ls := ls.take i) (ms := ls.drop i)
  rw [List.take_append_drop] at this; omega
/-- What is read back of a list of rows. -/
def gHeld : Int → LL → Int
  | q, [] => q
  | q, l :: r => if heldI l q < 0 then -1 else gHeld (heldI l q) r
theorem gHeld_drop {q : Int} {ls : LL} {i : Nat} (h : i < ls.length) : gHeld q (ls.drop i) = if heldI (ls.getD i []) q < 0 then -1 else gHeld (heldI (ls.getD i []) q) (ls.drop (i + 1)) := by
  rw [List.drop_eq_getElem_cons h, List.getD_eq_getElem?_getD, List.getElem?_eq_getElem h]; rfl
theorem gHeld_mk : ∀ {ls : LL} {k : Int}, 0 ≤ k → gHeld k (gMk k ls) = k + gTot ls
  | [], k, _ => by simp [gMk, gHeld, gTot]
  | l :: r, k, hk => by
    simp only [gMk, gHeld, heldI_iota, gTot]
    rw [if_neg (by omega), gHeld_mk (by omega)]
    omega
theorem heldI_le {l : List Int} {q : Int} : heldI l q = -1 ∨ heldI l q = q + l.length := by
  unfold heldI; split
  · exact .inr rfl
  · exact .inl rfl
theorem gTot_mk : ∀ {ls : LL} {k : Int}, gTot (gMk k ls) = gTot ls
  | [], _ => rfl
  | l :: r, k => by simp only [gMk, gTot, iotaI_len, gTot_mk]
theorem gHeld_one {ls : LL} : gHeld 1 (gMk 1 ls) = 1 + gTot ls := gHeld_mk (by omega)
theorem gTot_bd {m : Nat} : ∀ {ls : LL}, (∀ l, l ∈ ls → l.length ≤ m) → gTot ls ≤ m * ls.length
  | [], _ => by simp [gTot]
  | l :: r, h => by
    have h1 := h l (by simp)
    have h2 := gTot_bd (m := m) (ls := r) fun x hx => h x (by simp [hx])
    simp only [gTot, List.length_cons, Nat.mul_succ]; omega
theorem gTot_sum : ∀ {ls : LL}, gTot ls = (ls.map List.length).sum
  | [] => rfl
  | l :: r => by simp [gTot, gTot_sum (ls := r)]

theorem is_spec_l1In : FnIs Try.prog 117 15 [.tmp 6] (Try.f117.body.getD .skip) := ⟨⟨Try.f117, by kernel_rfl, by kernel_rfl, by kernel_rfl, by kernel_rfl⟩, by kernel_rfl, by kernel_rfl⟩
def G_spec_l1In : Gm := Gm.none
theorem G_spec_l1In_ok : G_spec_l1In.ok Try.prog := Gm.none_ok
theorem gm_spec_l1In {r : List Oper} {n : Nat} : splB G_spec_l1In r n = true := rfl
set_option maxHeartbeats 1000000 in
set_option maxRecDepth 100000 in
theorem runs_spec_l1In (n l m : Int) : ARuns Try.prog 117 [.int .i64 n, .int .i64 l, .int .i64 m] [] (.bool (inB n l m)) [] := by
  refine ARuns_bc G_spec_l1In_ok is_spec_l1In (by simp) fun hl hlB => ?_
  simp only [kcode_at, kreg_at, bc_skip, bc_seq, bc_cond, bc_block, bc_exit, bc_ret, bc_region, lkX_cons, acond_tmp, aCase_t, aCase_f, aCase_b, afin_nil, cvE_some, resL, resV, resC, cv, cvL, pack, entryE, inPrm, entryB, inPrms, bxCells, Option.getD_some, acall_clo, add_sp, add_lend, kcall_nil, selOf, selC, selA, inArgs, inA, inL, okA, okL, okBx, okC, outA, outL, outU, outB, deep, deepL, boxIds, AV.bid, List.map_nil, List.map_cons, List.all_nil, List.all_cons, BEq.rfl, Bool.and_true, Bool.true_and, List.append_nil, aops_nil, aops_plain, aops_guard, kont_at, yes_at, no_at, aop_move, aop_assign, aop_pick, aop_alloc, aop_box, aop_build, aop_buildSlice, aop_load, aop_store, aop_nilCheck, aop_binOp, aop_unOp, aop_convert, aop_fieldAddr, aop_indexAddr, aop_slice, aop_extract, aop_makeSlice, aop_len, aop_max, aMax_int, slTy2, SC0, aop_append, aop_call, evalE, getE, putE, getB, setB, St.put, setsB, nth, AV.ofV, AV.blk, AV.bid, AV.one, SC.len, SC.get, List.length_nil, List.length_cons, Nat.reduceEqDiff, Nat.reduceAdd, ↓reduceIte, true_and, and_true, Bool.true_eq_false, Bool.false_eq_true, false_imp_iff, true_imp_iff, decide_eq_true_eq, Bool.not_eq_true', Bool.not_eq_false', decide_eq_false_iff_not, Option.isSome, List.nil_append, List.cons_append, aGuardO_some, aGuard_tt, aGuard_tf, aGuard_ft, aGuard_ff, aGuard_tb, aGuard_fb, aGuard_ts, aGuard_fs, aPick_b, aPick_t, aPick_f, aAlloc_one, aAlloc_flat, aBox_some, aBuild_flat, aInt_add, aBin_add, aInt_sub, aBin_sub, aInt_mul, aBin_mul, aInt_quo, aBin_quo, aInt_rem, aBin_rem, aInt_and, aBin_and, aInt_or, aBin_or, aInt_xor, aBin_xor, aInt_andNot, aBin_andNot, aInt_eql, aBin_eql, aInt_neq, aBin_neq, aInt_lss, aBin_lss, aInt_leq, aBin_leq, aInt_gtr, aBin_gtr, aInt_geq, aBin_geq, aBin_shl, aBin_shr, aShift_shl, aShift_shr, aBin_be1, aBin_bn1, aBin_be2, aBin_bn2, aBin_be3, aBin_bn3, aBin_be4, aBin_bn4, aBin_be5, aBin_bn5, aBin_be6, aBin_bn6, aBin_be7, aBin_bn7, aBin_be8, aBin_bn8, aBin_be9, aBin_bn9, aUn_b, aUn_t, aUn_f, aUn_i, aNil_ptr, aNil_pv, aConv_int, aField_ptr, aField_pv, aIdx_sl, aIdx_prm, aIdx_row, aIdx_drow, aMake_i, aMake_s, aExtr_tup, aLen_ref, aLen_nil, aLen_sl, aLen_prm, aLen_str, aBuildL_some, aBuildS_some, aLoad_1b, aLoad_1d, aLoad_fb, aLoad_fd, aLoad_1p, aLoad_fp, aLoad_ep, aLoad_rr, aLoad_rd, aStore_1, aStore_f, aStore_r, aApp_some, aAppend_nil, aAppend_ref, aSlice_h, aSlice_l, aSlice_lh, aop_slice3, aSlice3_r, aop_field, aFld_agg, aBinW_f, aBinW_t, aWrap_mul, aWrap_add, isW_tmp, isW_mulc, isW_addc, isW_sub, isW_quo, isW_rem, isW_and, isW_or, isW_xor, isW_andNot, isW_shl, isW_shr, isW_eql, isW_neq, isW_lss, isW_leq, isW_gtr, isW_geq, Int.reduceLT, aBinW_dF, aBinW_dT, bc_draw, kregD_at, aopsD_nil, aopsD_plain, aopsD_guard, kontD_at, splW_t, splW_f, contD_at, yesD_at, noD_at, splD_bool, splD_undef, splD_skip, splD_int, splD_tt, splD_ff, splD_str, splD_nil, splD_sl, splD_prm, splD_ref, splD_ptr, splD_rp, splD_ep, splD_pv, splD_agg, splD_tup, splD_clo, gD_tt, gD_tf, gD_ft, gD_ff, gD_ts, gD_fs, slotO_some, addTr_nil, addTr_cons, memQ_nil, memQ_cons, clash_nil, clash_cons, regC_none, regC_nil, regC_cons, regR_nil, regR_cons, Int.toNat_zero, Int.toNat_one, rng0, rng1, rng2, rng3, rng4, SC.take, SC.drop, mp_nil, acond_ct, acond_cf, mp_one0, mp_one1, mp_one2, mp_one3, kcall_one, liveB_row, liveB_box, idx, cont, still, dies, lend, lendA, lendDies, snocs, SC.snoc, SC.app, meet, AV.cells, fillA, List.getD_cons_zero, List.getD_cons_succ, List.set_cons_zero, List.set_cons_succ, List.length_singleton, Nat.le_refl, Nat.lt_irrefl, Nat.reduceLT, Nat.reduceLeDiff, Option.map_some, Option.map_none, List.flatMap_nil, List.flatMap_cons, Nat.zero_add, BEq.rfl, kcall_two, mp_two0, mp_two1, mp_two2, mp_two3, mp_two4, aop_makeFunc, plainA, Bool.true_and, sl3, ty3, un3, sl78, ty78, un78, sl106, ty106, un106, sl104, ty104, un104, sl5, ty5, un5, sl2, ty2, un2, sl21, ty21, un21, sl4, ty4, un4, sl9, un9, sl24, ty24, un24, sl22, ty22, un22, sl42, ty42, un42, sl47, sl82, sl68, sl107, sl115, sl119, ty82, ty56, sl56, ty26, sl26, ty101, sl101, ty93, sl93, inR64, inRu64, inRu32, gm_spec_l1In, Try.f117]
  refine ⟨fun h => ?_, fun h => ?_⟩ <;> simp [h, inB]
def lend_spec_l1In : List Nat := []
def sp_spec_l1In : List AV → List Bx → (AV → List Bx → Prop) → Prop
  | [.int .i64 n, .int .i64 l, .int .i64 m], [], K => K (.bool (inB n l m)) []
  | _, _, _ => False
theorem at_spec_l1In {n l m : Int} {K : AV → List Bx → Prop} : sp_spec_l1In [.int .i64 n, .int .i64 l, .int .i64 m] [] K = (K (.bool (inB n l m)) []) := id rfl
theorem ok_spec_l1In : ∀ args giv K, sp_spec_l1In args giv K → ∃ r outs, ARuns Try.prog 117 args giv r outs ∧ K r outs := by
  intro args giv K hk
  unfold sp_spec_l1In at hk
  split at hk
  · exact ⟨_, _, runs_spec_l1In _ _ _ , hk⟩
  · exact hk.elim
theorem is_spec_SymmetricChains : FnIs Try.prog 33 77 [.tmp 2, .tmp 3] (Try.f33.body.getD .skip) := ⟨⟨Try.f33, by kernel_rfl, by kernel_rfl, by kernel_rfl, by kernel_rfl⟩, by kernel_rfl, by kernel_rfl⟩
def G_spec_SymmetricChains : Gm := (Gm.none.add 117 lend_spec_l1In sp_spec_l1In)
theorem G_spec_SymmetricChains_ok : G_spec_SymmetricChains.ok Try.prog := (Gm.add_ok Gm.none_ok ok_spec_l1In)
theorem gm_spec_SymmetricChains {r : List Oper} {n : Nat} : splB G_spec_SymmetricChains r n = true := rfl
theorem gs_spec_SymmetricChains_117 : G_spec_SymmetricChains.sp 117 = sp_spec_l1In ∧ G_spec_SymmetricChains.lend 117 = lend_spec_l1In := ⟨rfl, rfl⟩
set_option maxHeartbeats 1000000 in
set_option maxRecDepth 100000 in
theorem runs_spec_SymmetricChains (n : Int) : ARuns Try.prog 33 [.int .i64 n] [] (.tup [.ref 0 (scO n).length, .bool (inB n 0 6)]) [.row 24 (.rows (some 3) (scO n))] := by
  refine ARuns_bc G_spec_SymmetricChains_ok is_spec_SymmetricChains (by simp) fun hl hlB => ?_
  simp only [kcode_at, kreg_at, bc_skip, bc_seq, bc_cond, bc_block, bc_exit, bc_ret, bc_region, lkX_cons, acond_tmp, aCase_t, aCase_f, aCase_b, afin_nil, cvE_some, resL, resV, resC, cv, cvL, pack, entryE, inPrm, entryB, inPrms, bxCells, Option.getD_some, acall_clo, add_sp, add_lend, kcall_nil, selOf, selC, selA, inArgs, inA, inL, okA, okL, okBx, okC, outA, outL, outU, outB, deep, deepL, boxIds, AV.bid, List.map_nil, List.map_cons, List.all_nil, List.all_cons, BEq.rfl, Bool.and_true, Bool.true_and, List.append_nil, aops_nil, aops_plain, aops_guard, kont_at, yes_at, no_at, aop_move, aop_assign, aop_pick, aop_alloc, aop_box, aop_build, aop_buildSlice, aop_load, aop_store, aop_nilCheck, aop_binOp, aop_unOp, aop_convert, aop_fieldAddr, aop_indexAddr, aop_slice, aop_extract, aop_makeSlice, aop_len, aop_max, aMax_int, slTy2, SC0, aop_append, aop_call, evalE, getE, putE, getB, setB, St.put, setsB, nth, AV.ofV, AV.blk, AV.bid, AV.one, SC.len, SC.get, List.length_nil, List.length_cons, Nat.reduceEqDiff, Nat.reduceAdd, ↓reduceIte, true_and, and_true, Bool.true_eq_false, Bool.false_eq_true, false_imp_iff, true_imp_iff, decide_eq_true_eq, Bool.not_eq_true', Bool.not_eq_false', decide_eq_false_iff_not, Option.isSome, List.nil_append, List.cons_append, aGuardO_some, aGuard_tt, aGuard_tf, aGuard_ft, aGuard_ff, aGuard_tb, aGuard_fb, aGuard_ts, aGuard_fs, aPick_b, aPick_t, aPick_f, aAlloc_one, aAlloc_flat, aBox_some, aBuild_flat, aInt_add, aBin_add, aInt_sub, aBin_sub, aInt_mul, aBin_mul, aInt_quo, aBin_quo, aInt_rem, aBin_rem, aInt_and, aBin_and, aInt_or, aBin_or, aInt_xor, aBin_xor, aInt_andNot, aBin_andNot, aInt_eql, aBin_eql, aInt_neq, aBin_neq, aInt_lss, aBin_lss, aInt_leq, aBin_leq, aInt_gtr, aBin_gtr, aInt_geq, aBin_geq, aBin_shl, aBin_shr, aShift_shl, aShift_shr, aBin_be1, aBin_bn1, aBin_be2, aBin_bn2, aBin_be3, aBin_bn3, aBin_be4, aBin_bn4, aBin_be5, aBin_bn5, aBin_be6, aBin_bn6, aBin_be7, aBin_bn7, aBin_be8, aBin_bn8, aBin_be9, aBin_bn9, aUn_b, aUn_t, aUn_f, aUn_i, aNil_ptr, aNil_pv, aConv_int, aField_ptr, aField_pv, aIdx_sl, aIdx_prm, aIdx_row, aIdx_drow, aMake_i, aMake_s, aExtr_tup, aLen_ref, aLen_nil, aLen_sl, aLen_prm, aLen_str, aBuildL_some, aBuildS_some, aLoad_1b, aLoad_1d, aLoad_fb, aLoad_fd, aLoad_1p, aLoad_fp, aLoad_ep, aLoad_rr, aLoad_rd, aStore_1, aStore_f, aStore_r, aApp_some, aAppend_nil, aAppend_ref, aSlice_h, aSlice_l, aSlice_lh, aop_slice3, aSlice3_r, aop_field, aFld_agg, aBinW_f, aBinW_t, aWrap_mul, aWrap_add, isW_tmp, isW_mulc, isW_addc, isW_sub, isW_quo, isW_rem, isW_and, isW_or, isW_xor, isW_andNot, isW_shl, isW_shr, isW_eql, isW_neq, isW_lss, isW_leq, isW_gtr, isW_geq, Int.reduceLT, aBinW_dF, aBinW_dT, bc_draw, kregD_at, aopsD_nil, aopsD_plain, aopsD_guard, kontD_at, splW_t, splW_f, contD_at, yesD_at, noD_at, splD_bool, splD_undef, splD_skip, splD_int, splD_tt, splD_ff, splD_str, splD_nil, splD_sl, splD_prm, splD_ref, splD_ptr, splD_rp, splD_ep, splD_pv, splD_agg, splD_tup, splD_clo, gD_tt, gD_tf, gD_ft, gD_ff, gD_ts, gD_fs, slotO_some, addTr_nil, addTr_cons, memQ_nil, memQ_cons, clash_nil, clash_cons, regC_none, regC_nil, regC_cons, regR_nil, regR_cons, Int.toNat_zero, Int.toNat_one, rng0, rng1, rng2, rng3, rng4, SC.take, SC.drop, mp_nil, acond_ct, acond_cf, mp_one0, mp_one1, mp_one2, mp_one3, kcall_one, liveB_row, liveB_box, idx, cont, still, dies, lend, lendA, lendDies, snocs, SC.snoc, SC.app, meet, AV.cells, fillA, List.getD_cons_zero, List.getD_cons_succ, List.set_cons_zero, List.set_cons_succ, List.length_singleton, Nat.le_refl, Nat.lt_irrefl, Nat.reduceLT, Nat.reduceLeDiff, Option.map_some, Option.map_none, List.flatMap_nil, List.flatMap_cons, Nat.zero_add, BEq.rfl, kcall_two, mp_two0, mp_two1, mp_two2, mp_two3, mp_two4, aop_makeFunc, plainA, Bool.true_and, sl3, ty3, un3, sl78, ty78, un78, sl106, ty106, un106, sl104, ty104, un104, sl5, ty5, un5, sl2, ty2, un2, sl21, ty21, un21, sl4, ty4, un4, sl9, un9, sl24, ty24, un24, sl22, ty22, un22, sl42, ty42, un42, sl47, sl82, sl68, sl107, sl115, sl119, ty82, ty56, sl56, ty26, sl26, ty101, sl101, ty93, sl93, inR64, inRu64, inRu32, gm_spec_SymmetricChains, gs_spec_SymmetricChains_117, at_spec_l1In, lend_spec_l1In, Try.f33]
  refine ⟨fun h => ?_, fun h => ?_⟩
  · rw [scO, h]
    exact afin_of [0] rfl (by simp only [resL, resV, resC, getE, putE, getB, setB, lifts, liftOne, liftC, liftK, killB, cellsOfB, List.length_cons, List.length_nil, List.nil_append, List.cons_append, Nat.reduceAdd, Nat.reduceEqDiff, ↓reduceIte, ty3, ty78, ty106, ty104, ty5, ty2, ty21, ty4, ty24, ty22, ty42, ty82, ty56, ty26, ty101, ty93]; rfl) (by simp [St.conv, St.bf, getE, putE, getB, cv, cvL, cvB, idx, still, pack, lifts, liftOne, liftC, liftK, killB, cellsOfB, setB]) (by simp [St.conv, St.bf, getE, putE, getB, cv, cvL, cvB, idx, still, pack, lifts, liftOne, liftC, liftK, killB, cellsOfB, setB])
  rw [scO, if_pos h, h]
  rw [inB_t] at h
  obtain ⟨N, rfl⟩ := Int.eq_ofNat_of_zero_le h.1
  simp only [Int.toNat_natCast]
  have hN : N ≤ 6 := by omega
  refine bc_loop (fun e : Nat => e ≤ N)
    (fun e => ⟨[(0, .int .i64 N), (4, .ref 0 (symF e).length), (5, .int .i64 e)], [.row 24 (.rows (some 3) (symF e))]⟩) (fun e => N - e)
    [0, 4, 5] [1] 0 rfl (by simp [St.conv, St.bf, getE, putE, getB, cv, cvL, cvB, idx, still, pack, lifts, liftOne, liftC, liftK, killB, cellsOfB, setB]; exact ⟨rfl, rfl⟩) (by omega) fun e he => ?_
  simp only [kcode_at, kreg_at, bc_skip, bc_seq, bc_cond, bc_block, bc_exit, bc_ret, bc_region, lkX_cons, acond_tmp, aCase_t, aCase_f, aCase_b, afin_nil, cvE_some, resL, resV, resC, cv, cvL, pack, entryE, inPrm, entryB, inPrms, bxCells, Option.getD_some, acall_clo, add_sp, add_lend, kcall_nil, selOf, selC, selA, inArgs, inA, inL, okA, okL, okBx, okC, outA, outL, outU, outB, deep, deepL, boxIds, AV.bid, List.map_nil, List.map_cons, List.all_nil, List.all_cons, BEq.rfl, Bool.and_true, Bool.true_and, List.append_nil, aops_nil, aops_plain, aops_guard, kont_at, yes_at, no_at, aop_move, aop_assign, aop_pick, aop_alloc, aop_box, aop_build, aop_buildSlice, aop_load, aop_store, aop_nilCheck, aop_binOp, aop_unOp, aop_convert, aop_fieldAddr, aop_indexAddr, aop_slice, aop_extract, aop_makeSlice, aop_len, aop_max, aMax_int, slTy2, SC0, aop_append, aop_call, evalE, getE, putE, getB, setB, St.put, setsB, nth, AV.ofV, AV.blk, AV.bid, AV.one, SC.len, SC.get, List.length_nil, List.length_cons, Nat.reduceEqDiff, Nat.reduceAdd, ↓reduceIte, true_and, and_true, Bool.true_eq_false, Bool.false_eq_true, false_imp_iff, true_imp_iff, decide_eq_true_eq, Bool.not_eq_true', Bool.not_eq_false', decide_eq_false_iff_not, Option.isSome, List.nil_append, List.cons_append, aGuardO_some, aGuard_tt, aGuard_tf, aGuard_ft, aGuard_ff, aGuard_tb, aGuard_fb, aGuard_ts, aGuard_fs, aPick_b, aPick_t, aPick_f, aAlloc_one, aAlloc_flat, aBox_some, aBuild_flat, aInt_add, aBin_add, aInt_sub, aBin_sub, aInt_mul, aBin_mul, aInt_quo, aBin_quo, aInt_rem, aBin_rem, aInt_and, aBin_and, aInt_or, aBin_or, aInt_xor, aBin_xor, aInt_andNot, aBin_andNot, aInt_eql, aBin_eql, aInt_neq, aBin_neq, aInt_lss, aBin_lss, aInt_leq, aBin_leq, aInt_gtr, aBin_gtr, aInt_geq, aBin_geq, aBin_shl, aBin_shr, aShift_shl, aShift_shr, aBin_be1, aBin_bn1, aBin_be2, aBin_bn2, aBin_be3, aBin_bn3, aBin_be4, aBin_bn4, aBin_be5, aBin_bn5, aBin_be6, aBin_bn6, aBin_be7, aBin_bn7, aBin_be8, aBin_bn8, aBin_be9, aBin_bn9, aUn_b, aUn_t, aUn_f, aUn_i, aNil_ptr, aNil_pv, aConv_int, aField_ptr, aField_pv, aIdx_sl, aIdx_prm, aIdx_row, aIdx_drow, aMake_i, aMake_s, aExtr_tup, aLen_ref, aLen_nil, aLen_sl, aLen_prm, aLen_str, aBuildL_some, aBuildS_some, aLoad_1b, aLoad_1d, aLoad_fb, aLoad_fd, aLoad_1p, aLoad_fp, aLoad_ep, aLoad_rr, aLoad_rd, aStore_1, aStore_f, aStore_r, aApp_some, aAppend_nil, aAppend_ref, aSlice_h, aSlice_l, aSlice_lh, aop_slice3, aSlice3_r, aop_field, aFld_agg, aBinW_f, aBinW_t, aWrap_mul, aWrap_add, isW_tmp, isW_mulc, isW_addc, isW_sub, isW_quo, isW_rem, isW_and, isW_or, isW_xor, isW_andNot, isW_shl, isW_shr, isW_eql, isW_neq, isW_lss, isW_leq, isW_gtr, isW_geq, Int.reduceLT, aBinW_dF, aBinW_dT, bc_draw, kregD_at, aopsD_nil, aopsD_plain, aopsD_guard, kontD_at, splW_t, splW_f, contD_at, yesD_at, noD_at, splD_bool, splD_undef, splD_skip, splD_int, splD_tt, splD_ff, splD_str, splD_nil, splD_sl, splD_prm, splD_ref, splD_ptr, splD_rp, splD_ep, splD_pv, splD_agg, splD_tup, splD_clo, gD_tt, gD_tf, gD_ft, gD_ff, gD_ts, gD_fs, slotO_some, addTr_nil, addTr_cons, memQ_nil, memQ_cons, clash_nil, clash_cons, regC_none, regC_nil, regC_cons, regR_nil, regR_cons, Int.toNat_zero, Int.toNat_one, rng0, rng1, rng2, rng3, rng4, SC.take, SC.drop, mp_nil, acond_ct, acond_cf, mp_one0, mp_one1, mp_one2, mp_one3, kcall_one, liveB_row, liveB_box, idx, cont, still, dies, lend, lendA, lendDies, snocs, SC.snoc, SC.app, meet, AV.cells, fillA, List.getD_cons_zero, List.getD_cons_succ, List.set_cons_zero, List.set_cons_succ, List.length_singleton, Nat.le_refl, Nat.lt_irrefl, Nat.reduceLT, Nat.reduceLeDiff, Option.map_some, Option.map_none, List.flatMap_nil, List.flatMap_cons, Nat.zero_add, BEq.rfl, kcall_two, mp_two0, mp_two1, mp_two2, mp_two3, mp_two4, aop_makeFunc, plainA, Bool.true_and, sl3, ty3, un3, sl78, ty78, un78, sl106, ty106, un106, sl104, ty104, un104, sl5, ty5, un5, sl2, ty2, un2, sl21, ty21, un21, sl4, ty4, un4, sl9, un9, sl24, ty24, un24, sl22, ty22, un22, sl42, ty42, un42, sl47, sl82, sl68, sl107, sl115, sl119, ty82, ty56, sl56, ty26, sl26, ty101, sl101, ty93, sl93, inR64, inRu64, inRu32, gm_spec_SymmetricChains, gs_spec_SymmetricChains_117, at_spec_l1In, lend_spec_l1In, Int.toNat_natCast]
  have hb := symF_len (e := e)
  have hb2 : 2 ^ e ≤ 2 ^ 6 := Nat.pow_le_pow_right (by omega) (by omega)
  have hd : ∀ q, q ∈ symF e → 1 ≤ q.length ∧ q.length ≤ e + 1 := fun q hq => symF_row hq
  refine ⟨fun hlt => ?_, fun hge => ?_⟩
  · have hs : symF (e + 1) = symS (1 * 2 ^ e) (symF e) := rfl
    generalize symF e = L at *
    have hp : (2 : Int) ^ e = ((2 ^ e : Nat) : Int) := by simp
    have he2 : (e : Int) ≤ 64 := by omega
    refine bc_loop (fun i : Nat => i ≤ L.length)
      (fun i => ⟨[(0, .int .i64 N), (4, .ref 0 L.length), (5, .int .i64 e), (6, .ref 1 (symS (1 * 2 ^ e) (L.take i)).length), (7, .int .i64 i)],
        [.row 24 (.rows (some 3) L), .row 24 (.rows (some 3) (symS (1 * 2 ^ e) (L.take i)))]⟩) (fun i => L.length - i)
      [0, 4, 5, 6, 7] [0, 1] 0 rfl (by simp [St.conv, St.bf, getE, putE, getB, cv, cvL, cvB, idx, still, pack, lifts, liftOne, liftC, liftK, killB, cellsOfB, setB]; simp [symS]) (by simp) fun i hi => ?_
    simp only [kcode_at, kreg_at, bc_skip, bc_seq, bc_cond, bc_block, bc_exit, bc_ret, bc_region, lkX_cons, acond_tmp, aCase_t, aCase_f, aCase_b, afin_nil, cvE_some, resL, resV, resC, cv, cvL, pack, entryE, inPrm, entryB, inPrms, bxCells, Option.getD_some, acall_clo, add_sp, add_lend, kcall_nil, selOf, selC, selA, inArgs, inA, inL, okA, okL, okBx, okC, outA, outL, outU, outB, deep, deepL, boxIds, AV.bid, List.map_nil, List.map_cons, List.all_nil, List.all_cons, BEq.rfl, Bool.and_true, Bool.true_and, List.append_nil, aops_nil, aops_plain, aops_guard, kont_at, yes_at, no_at, aop_move, aop_assign, aop_pick, aop_alloc, aop_box, aop_build, aop_buildSlice, aop_load, aop_store, aop_nilCheck, aop_binOp, aop_unOp, aop_convert, aop_fieldAddr, aop_indexAddr, aop_slice, aop_extract, aop_makeSlice, aop_len, aop_max, aMax_int, slTy2, SC0, aop_append, aop_call, evalE, getE, putE, getB, setB, St.put, setsB, nth, AV.ofV, AV.blk, AV.bid, AV.one, SC.len, SC.get, List.length_nil, List.length_cons, Nat.reduceEqDiff, Nat.reduceAdd, ↓reduceIte, true_and, and_true, Bool.true_eq_false, Bool.false_eq_true, false_imp_iff, true_imp_iff, decide_eq_true_eq, Bool.not_eq_true', Bool.not_eq_false', decide_eq_false_iff_not, Option.isSome, List.nil_append, List.cons_append, aGuardO_some, aGuard_tt, aGuard_tf, aGuard_ft, aGuard_ff, aGuard_tb, aGuard_fb, aGuard_ts, aGuard_fs, aPick_b, aPick_t, aPick_f, aAlloc_one, aAlloc_flat, aBox_some, aBuild_flat, aInt_add, aBin_add, aInt_sub, aBin_sub, aInt_mul, aBin_mul, aInt_quo, aBin_quo, aInt_rem, aBin_rem, aInt_and, aBin_and, aInt_or, aBin_or, aInt_xor, aBin_xor, aInt_andNot, aBin_andNot, aInt_eql, aBin_eql, aInt_neq, aBin_neq, aInt_lss, aBin_lss, aInt_leq, aBin_leq, aInt_gtr, aBin_gtr, aInt_geq, aBin_geq, aBin_shl, aBin_shr, aShift_shl, aShift_shr, aBin_be1, aBin_bn1, aBin_be2, aBin_bn2, aBin_be3, aBin_bn3, aBin_be4, aBin_bn4, aBin_be5, aBin_bn5, aBin_be6, aBin_bn6, aBin_be7, aBin_bn7, aBin_be8, aBin_bn8, aBin_be9, aBin_bn9, aUn_b, aUn_t, aUn_f, aUn_i, aNil_ptr, aNil_pv, aConv_int, aField_ptr, aField_pv, aIdx_sl, aIdx_prm, aIdx_row, aIdx_drow, aMake_i, aMake_s, aExtr_tup, aLen_ref, aLen_nil, aLen_sl, aLen_prm, aLen_str, aBuildL_some, aBuildS_some, aLoad_1b, aLoad_1d, aLoad_fb, aLoad_fd, aLoad_1p, aLoad_fp, aLoad_ep, aLoad_rr, aLoad_rd, aStore_1, aStore_f, aStore_r, aApp_some, aAppend_nil, aAppend_ref, aSlice_h, aSlice_l, aSlice_lh, aop_slice3, aSlice3_r, aop_field, aFld_agg, aBinW_f, aBinW_t, aWrap_mul, aWrap_add, isW_tmp, isW_mulc, isW_addc, isW_sub, isW_quo, isW_rem, isW_and, isW_or, isW_xor, isW_andNot, isW_shl, isW_shr, isW_eql, isW_neq, isW_lss, isW_leq, isW_gtr, isW_geq, Int.reduceLT, aBinW_dF, aBinW_dT, bc_draw, kregD_at, aopsD_nil, aopsD_plain, aopsD_guard, kontD_at, splW_t, splW_f, contD_at, yesD_at, noD_at, splD_bool, splD_undef, splD_skip, splD_int, splD_tt, splD_ff, splD_str, splD_nil, splD_sl, splD_prm, splD_ref, splD_ptr, splD_rp, splD_ep, splD_pv, splD_agg, splD_tup, splD_clo, gD_tt, gD_tf, gD_ft, gD_ff, gD_ts, gD_fs, slotO_some, addTr_nil, addTr_cons, memQ_nil, memQ_cons, clash_nil, clash_cons, regC_none, regC_nil, regC_cons, regR_nil, regR_cons, Int.toNat_zero, Int.toNat_one, rng0, rng1, rng2, rng3, rng4, SC.take, SC.drop, mp_nil, acond_ct, acond_cf, mp_one0, mp_one1, mp_one2, mp_one3, kcall_one, liveB_row, liveB_box, idx, cont, still, dies, lend, lendA, lendDies, snocs, SC.snoc, SC.app, meet, AV.cells, fillA, List.getD_cons_zero, List.getD_cons_succ, List.set_cons_zero, List.set_cons_succ, List.length_singleton, Nat.le_refl, Nat.lt_irrefl, Nat.reduceLT, Nat.reduceLeDiff, Option.map_some, Option.map_none, List.flatMap_nil, List.flatMap_cons, Nat.zero_add, BEq.rfl, kcall_two, mp_two0, mp_two1, mp_two2, mp_two3, mp_two4, aop_makeFunc, plainA, Bool.true_and, sl3, ty3, un3, sl78, ty78, un78, sl106, ty106, un106, sl104, ty104, un104, sl5, ty5, un5, sl2, ty2, un2, sl21, ty21, un21, sl4, ty4, un4, sl9, un9, sl24, ty24, un24, sl22, ty22, un22, sl42, ty42, un42, sl47, sl82, sl68, sl107, sl115, sl119, ty82, ty56, sl56, ty26, sl26, ty101, sl101, ty93, sl93, inR64, inRu64, inRu32, gm_spec_SymmetricChains, gs_spec_SymmetricChains_117, at_spec_l1In, lend_spec_l1In, Int.toNat_natCast, List.length_append, List.length_singleton]
    refine ⟨fun hlt2 => ?_, fun hge2 => ?_⟩
    · have hm := hd _ (getR_mem (ls := L) (i := i) (by omega))
      have hst := symS_take (b := 1 * 2 ^ e) (L := L) (i := i) (by omega)
      have hsl := symS_len (b := 1 * 2 ^ e) (L := L.take i)
      generalize L.getD i [] = c at *
      have ht : ((c.length : Int) - 1).toNat = c.length - 1 := by omega
      simp only [ht]
      have hq : (L.take i).length ≤ 64 := by simp; omega
      refine ⟨by omega, by omega, by omega, by omega, by omega, ⟨by omega, he2, by omega, by omega⟩, by omega, by omega, (by (repeat' apply And.intro) <;> (show ordB _ _ _ = true; kernel_rfl)), ?_⟩
      generalize hB : symS (1 * 2 ^ e) (L.take i) ++ [c ++ [bor .i64 (c.getD (c.length - 1) 0) (1 * 2 ^ e)]] = S at *
      have hSl : (symS (1 * 2 ^ e) (L.take i)).length + 1 = S.length := by rw [← hB]; simp
      simp only [hSl]
      refine bc_loop (fun k : Nat => k ≤ c.length - 1)
        (fun k => ⟨[(0, .int .i64 N), (4, .ref 0 L.length), (5, .int .i64 e), (6, .ref 1 S.length), (7, .int .i64 i), (8, .sl (some 3) (.ints .i64 c)), (9, .ref 2 ((c.take k).map fun s => bor .i64 s (1 * 2 ^ e)).length), (10, .int .i64 k)],
          [.row 24 (.rows (some 3) L), .row 24 (.rows (some 3) S), .row 3 (.ints .i64 ((c.take k).map fun s => bor .i64 s (1 * 2 ^ e)))]⟩) (fun k => c.length - 1 - k)
        [0, 4, 5, 6, 7, 8, 9, 10] [0, 1, 5] 0 rfl (by simp [St.conv, St.bf, getE, putE, getB, cv, cvL, cvB, idx, still, pack, lifts, liftOne, liftC, liftK, killB, cellsOfB, setB]) (by simp) fun k hk => ?_
      simp only [kcode_at, kreg_at, bc_skip, bc_seq, bc_cond, bc_block, bc_exit, bc_ret, bc_region, lkX_cons, acond_tmp, aCase_t, aCase_f, aCase_b, afin_nil, cvE_some, resL, resV, resC, cv, cvL, pack, entryE, inPrm, entryB, inPrms, bxCells, Option.getD_some, acall_clo, add_sp, add_lend, kcall_nil, selOf, selC, selA, inArgs, inA, inL, okA, okL, okBx, okC, outA, outL, outU, outB, deep, deepL, boxIds, AV.bid, List.map_nil, List.map_cons, List.all_nil, List.all_cons, BEq.rfl, Bool.and_true, Bool.true_and, List.append_nil, aops_nil, aops_plain, aops_guard, kont_at, yes_at, no_at, aop_move, aop_assign, aop_pick, aop_alloc, aop_box, aop_build, aop_buildSlice, aop_load, aop_store, aop_nilCheck, aop_binOp, aop_unOp, aop_convert, aop_fieldAddr, aop_indexAddr, aop_slice, aop_extract, aop_makeSlice, aop_len, aop_max, aMax_int, slTy2, SC0, aop_append, aop_call, evalE, getE, putE, getB, setB, St.put, setsB, nth, AV.ofV, AV.blk, AV.bid, AV.one, SC.len, SC.get, List.length_nil, List.length_cons, Nat.reduceEqDiff, Nat.reduceAdd, ↓reduceIte, true_and, and_true, Bool.true_eq_false, Bool.false_eq_true, false_imp_iff, true_imp_iff, decide_eq_true_eq, Bool.not_eq_true', Bool.not_eq_false', decide_eq_false_iff_not, Option.isSome, List.nil_append, List.cons_append, aGuardO_some, aGuard_tt, aGuard_tf, aGuard_ft, aGuard_ff, aGuard_tb, aGuard_fb, aGuard_ts, aGuard_fs, aPick_b, aPick_t, aPick_f, aAlloc_one, aAlloc_flat, aBox_some, aBuild_flat, aInt_add, aBin_add, aInt_sub, aBin_sub, aInt_mul, aBin_mul, aInt_quo, aBin_quo, aInt_rem, aBin_rem, aInt_and, aBin_and, aInt_or, aBin_or, aInt_xor, aBin_xor, aInt_andNot, aBin_andNot, aInt_eql, aBin_eql, aInt_neq, aBin_neq, aInt_lss, aBin_lss, aInt_leq, aBin_leq, aInt_gtr, aBin_gtr, aInt_geq, aBin_geq, aBin_shl, aBin_shr, aShift_shl, aShift_shr, aBin_be1, aBin_bn1, aBin_be2, aBin_bn2, aBin_be3, aBin_bn3, aBin_be4, aBin_bn4, aBin_be5, aBin_bn5, aBin_be6, aBin_bn6, aBin_be7, aBin_bn7, aBin_be8, aBin_bn8, aBin_be9, aBin_bn9, aUn_b, aUn_t, aUn_f, aUn_i, aNil_ptr, aNil_pv, aConv_int, aField_ptr, aField_pv, aIdx_sl, aIdx_prm, aIdx_row, aIdx_drow, aMake_i, aMake_s, aExtr_tup, aLen_ref, aLen_nil, aLen_sl, aLen_prm, aLen_str, aBuildL_some, aBuildS_some, aLoad_1b, aLoad_1d, aLoad_fb, aLoad_fd, aLoad_1p, aLoad_fp, aLoad_ep, aLoad_rr, aLoad_rd, aStore_1, aStore_f, aStore_r, aApp_some, aAppend_nil, aAppend_ref, aSlice_h, aSlice_l, aSlice_lh, aop_slice3, aSlice3_r, aop_field, aFld_agg, aBinW_f, aBinW_t, aWrap_mul, aWrap_add, isW_tmp, isW_mulc, isW_addc, isW_sub, isW_quo, isW_rem, isW_and, isW_or, isW_xor, isW_andNot, isW_shl, isW_shr, isW_eql, isW_neq, isW_lss, isW_leq, isW_gtr, isW_geq, Int.reduceLT, aBinW_dF, aBinW_dT, bc_draw, kregD_at, aopsD_nil, aopsD_plain, aopsD_guard, kontD_at, splW_t, splW_f, contD_at, yesD_at, noD_at, splD_bool, splD_undef, splD_skip, splD_int, splD_tt, splD_ff, splD_str, splD_nil, splD_sl, splD_prm, splD_ref, splD_ptr, splD_rp, splD_ep, splD_pv, splD_agg, splD_tup, splD_clo, gD_tt, gD_tf, gD_ft, gD_ff, gD_ts, gD_fs, slotO_some, addTr_nil, addTr_cons, memQ_nil, memQ_cons, clash_nil, clash_cons, regC_none, regC_nil, regC_cons, regR_nil, regR_cons, Int.toNat_zero, Int.toNat_one, rng0, rng1, rng2, rng3, rng4, SC.take, SC.drop, mp_nil, acond_ct, acond_cf, mp_one0, mp_one1, mp_one2, mp_one3, kcall_one, liveB_row, liveB_box, idx, cont, still, dies, lend, lendA, lendDies, snocs, SC.snoc, SC.app, meet, AV.cells, fillA, List.getD_cons_zero, List.getD_cons_succ, List.set_cons_zero, List.set_cons_succ, List.length_singleton, Nat.le_refl, Nat.lt_irrefl, Nat.reduceLT, Nat.reduceLeDiff, Option.map_some, Option.map_none, List.flatMap_nil, List.flatMap_cons, Nat.zero_add, BEq.rfl, kcall_two, mp_two0, mp_two1, mp_two2, mp_two3, mp_two4, aop_makeFunc, plainA, Bool.true_and, sl3, ty3, un3, sl78, ty78, un78, sl106, ty106, un106, sl104, ty104, un104, sl5, ty5, un5, sl2, ty2, un2, sl21, ty21, un21, sl4, ty4, un4, sl9, un9, sl24, ty24, un24, sl22, ty22, un22, sl42, ty42, un42, sl47, sl82, sl68, sl107, sl115, sl119, ty82, ty56, sl56, ty26, sl26, ty101, sl101, ty93, sl93, inR64, inRu64, inRu32, gm_spec_SymmetricChains, gs_spec_SymmetricChains_117, at_spec_l1In, lend_spec_l1In, Int.toNat_natCast, List.length_append, List.length_singleton]
      refine ⟨by omega, fun hlt3 => ⟨by omega, ⟨by omega, he2, by omega, by omega⟩, by simp; omega, (by (repeat' apply And.intro) <;> (show ordB _ _ _ = true; kernel_rfl)), by omega, klp_ofK [0, 1, 2] rfl (k + 1) ?_ (by omega) (by omega)⟩, fun hge3 => ?_⟩
      · rw [take_succ_getD (by omega), List.map_append]
        simp [St.conv, St.bf, getE, putE, getB, cv, cvL, cvB, idx, still, pack, lifts, liftOne, liftC, liftK, killB, cellsOfB, setB]
      · have : k = c.length - 1 := by omega
        subst this
        have hS : S.length ≤ 200 := by rw [← hB]; simp only [List.length_append, List.length_singleton]; omega
        have hml : ((c.take (c.length - 1)).map fun s => bor .i64 s (1 * 2 ^ e)).length = c.length - 1 := by simp
        refine ⟨fun h1 => ⟨by omega, by omega, klp_ofK [0, 1] rfl (i + 1) ?_ (by omega) (by omega)⟩, fun h1 => ⟨by omega, klp_ofK [0, 1] rfl (i + 1) ?_ (by omega) (by omega)⟩⟩
        · have e5 : symS (1 * 2 ^ e) (L.take (i + 1)) = S ++ [(c.take (c.length - 1)).map fun s => bor .i64 s (1 * 2 ^ e)] := by rw [hst, symT, if_neg (by omega), ← hB]; simp
          rw [e5]
          simp [St.conv, St.bf, getE, putE, getB, cv, cvL, cvB, idx, still, pack, lifts, liftOne, liftC, liftK, killB, cellsOfB, setB]
        · have e5 : symS (1 * 2 ^ e) (L.take (i + 1)) = S := by rw [hst, symT, if_pos (by omega), ← hB]
          rw [e5]
          simp [St.conv, St.bf, getE, putE, getB, cv, cvL, cvB, idx, still, pack, lifts, liftOne, liftC, liftK, killB, cellsOfB, setB]
    · have : i = L.length := by omega
      subst this
      rw [List.take_length]
      exact ⟨by omega, klp_ofK [1] rfl (e + 1) (by rw [hs]; simp [St.conv, St.bf, getE, putE, getB, cv, cvL, cvB, idx, still, pack, lifts, liftOne, liftC, liftK, killB, cellsOfB, setB]) (by omega) (by omega)⟩
  · have : e = N := by omega
    subst this
    exact afin_of [0] rfl rfl (by simp [St.conv, St.bf, getE, putE, getB, cv, cvL, cvB, idx, still, pack, lifts, liftOne, liftC, liftK, killB, cellsOfB, setB]) (by simp [St.conv, St.bf, getE, putE, getB, cv, cvL, cvB, idx, still, pack, lifts, liftOne, liftC, liftK, killB, cellsOfB, setB])
def lend_spec_SymmetricChains : List Nat := []
def sp_spec_SymmetricChains : List AV → List Bx → (AV → List Bx → Prop) → Prop
  | [.int .i64 n], [], K => K (.tup [.ref 0 (scO n).length, .bool (inB n 0 6)]) [.row 24 (.rows (some 3) (scO n))]
  | _, _, _ => False
theorem at_spec_SymmetricChains {n : Int} {K : AV → List Bx → Prop} : sp_spec_SymmetricChains [.int .i64 n] [] K = (K (.tup [.ref 0 (scO n).length, .bool (inB n 0 6)]) [.row 24 (.rows (some 3) (scO n))]) := id rfl
theorem ok_spec_SymmetricChains : ∀ args giv K, sp_spec_SymmetricChains args giv K → ∃ r outs, ARuns Try.prog 33 args giv r outs ∧ K r outs := by
  intro args giv K hk
  unfold sp_spec_SymmetricChains at hk
  split at hk
  · exact ⟨_, _, runs_spec_SymmetricChains _ , hk⟩
  · exact hk.elim
theorem is_impl_within : FnIs Try.prog 110 15 [.tmp 6] (Try.f110.body.getD .skip) := ⟨⟨Try.f110, by kernel_rfl, by kernel_rfl, by kernel_rfl, by kernel_rfl⟩, by kernel_rfl, by kernel_rfl⟩
def G_impl_within : Gm := Gm.none
theorem G_impl_within_ok : G_impl_within.ok Try.prog := Gm.none_ok
theorem gm_impl_within {r : List Oper} {n : Nat} : splB G_impl_within r n = true := rfl
set_option maxHeartbeats 1000000 in
set_option maxRecDepth 100000 in
theorem runs_impl_within (n l m : Int) : ARuns Try.prog 110 [.int .i64 n, .int .i64 l, .int .i64 m] [] (.bool (inB n l m)) [] := by
  refine ARuns_bc G_impl_within_ok is_impl_within (by simp) fun hl hlB => ?_
  simp only [kcode_at, kreg_at, bc_skip, bc_seq, bc_cond, bc_block, bc_exit, bc_ret, bc_region, lkX_cons, acond_tmp, aCase_t, aCase_f, aCase_b, afin_nil, cvE_some, resL, resV, resC, cv, cvL, pack, entryE, inPrm, entryB, inPrms, bxCells, Option.getD_some, acall_clo, add_sp, add_lend, kcall_nil, selOf, selC, selA, inArgs, inA, inL, okA, okL, okBx, okC, outA, outL, outU, outB, deep, deepL, boxIds, AV.bid, List.map_nil, List.map_cons, List.all_nil, List.all_cons, BEq.rfl, Bool.and_true, Bool.true_and, List.append_nil, aops_nil, aops_plain, aops_guard, kont_at, yes_at, no_at, aop_move, aop_assign, aop_pick, aop_alloc, aop_box, aop_build, aop_buildSlice, aop_load, aop_store, aop_nilCheck, aop_binOp, aop_unOp, aop_convert, aop_fieldAddr, aop_indexAddr, aop_slice, aop_extract, aop_makeSlice, aop_len, aop_max, aMax_int, slTy2, SC0, aop_append, aop_call, evalE, getE, putE, getB, setB, St.put, setsB, nth, AV.ofV, AV.blk, AV.bid, AV.one, SC.len, SC.get, List.length_nil, List.length_cons, Nat.reduceEqDiff, Nat.reduceAdd, ↓reduceIte, true_and, and_true, Bool.true_eq_false, Bool.false_eq_true, false_imp_iff, true_imp_iff, decide_eq_true_eq, Bool.not_eq_true', Bool.not_eq_false', decide_eq_false_iff_not, Option.isSome, List.nil_append, List.cons_append, aGuardO_some, aGuard_tt, aGuard_tf, aGuard_ft, aGuard_ff, aGuard_tb, aGuard_fb, aGuard_ts, aGuard_fs, aPick_b, aPick_t, aPick_f, aAlloc_one, aAlloc_flat, aBox_some, aBuild_flat, aInt_add, aBin_add, aInt_sub, aBin_sub, aInt_mul, aBin_mul, aInt_quo, aBin_quo, aInt_rem, aBin_rem, aInt_and, aBin_and, aInt_or, aBin_or, aInt_xor, aBin_xor, aInt_andNot, aBin_andNot, aInt_eql, aBin_eql, aInt_neq, aBin_neq, aInt_lss, aBin_lss, aInt_leq, aBin_leq, aInt_gtr, aBin_gtr, aInt_geq, aBin_geq, aBin_shl, aBin_shr, aShift_shl, aShift_shr, aBin_be1, aBin_bn1, aBin_be2, aBin_bn2, aBin_be3, aBin_bn3, aBin_be4, aBin_bn4, aBin_be5, aBin_bn5, aBin_be6, aBin_bn6, aBin_be7, aBin_bn7, aBin_be8, aBin_bn8, aBin_be9, aBin_bn9, aUn_b, aUn_t, aUn_f, aUn_i, aNil_ptr, aNil_pv, aConv_int, aField_ptr, aField_pv, aIdx_sl, aIdx_prm, aIdx_row, aIdx_drow, aMake_i, aMake_s, aExtr_tup, aLen_ref, aLen_nil, aLen_sl, aLen_prm, aLen_str, aBuildL_some, aBuildS_some, aLoad_1b, aLoad_1d, aLoad_fb, aLoad_fd, aLoad_1p, aLoad_fp, aLoad_ep, aLoad_rr, aLoad_rd, aStore_1, aStore_f, aStore_r, aApp_some, aAppend_nil, aAppend_ref, aSlice_h, aSlice_l, aSlice_lh, aop_slice3, aSlice3_r, aop_field, aFld_agg, aBinW_f, aBinW_t, aWrap_mul, aWrap_add, isW_tmp, isW_mulc, isW_addc, isW_sub, isW_quo, isW_rem, isW_and, isW_or, isW_xor, isW_andNot, isW_shl, isW_shr, isW_eql, isW_neq, isW_lss, isW_leq, isW_gtr, isW_geq, Int.reduceLT, aBinW_dF, aBinW_dT, bc_draw, kregD_at, aopsD_nil, aopsD_plain, aopsD_guard, kontD_at, splW_t, splW_f, contD_at, yesD_at, noD_at, splD_bool, splD_undef, splD_skip, splD_int, splD_tt, splD_ff, splD_str, splD_nil, splD_sl, splD_prm, splD_ref, splD_ptr, splD_rp, splD_ep, splD_pv, splD_agg, splD_tup, splD_clo, gD_tt, gD_tf, gD_ft, gD_ff, gD_ts, gD_fs, slotO_some, addTr_nil, addTr_cons, memQ_nil, memQ_cons, clash_nil, clash_cons, regC_none, regC_nil, regC_cons, regR_nil, regR_cons, Int.toNat_zero, Int.toNat_one, rng0, rng1, rng2, rng3, rng4, SC.take, SC.drop, mp_nil, acond_ct, acond_cf, mp_one0, mp_one1, mp_one2, mp_one3, kcall_one, liveB_row, liveB_box, idx, cont, still, dies, lend, lendA, lendDies, snocs, SC.snoc, SC.app, meet, AV.cells, fillA, List.getD_cons_zero, List.getD_cons_succ, List.set_cons_zero, List.set_cons_succ, List.length_singleton, Nat.le_refl, Nat.lt_irrefl, Nat.reduceLT, Nat.reduceLeDiff, Option.map_some, Option.map_none, List.flatMap_nil, List.flatMap_cons, Nat.zero_add, BEq.rfl, kcall_two, mp_two0, mp_two1, mp_two2, mp_two3, mp_two4, aop_makeFunc, plainA, Bool.true_and, sl3, ty3, un3, sl78, ty78, un78, sl106, ty106, un106, sl104, ty104, un104, sl5, ty5, un5, sl2, ty2, un2, sl21, ty21, un21, sl4, ty4, un4, sl9, un9, sl24, ty24, un24, sl22, ty22, un22, sl42, ty42, un42, sl47, sl82, sl68, sl107, sl115, sl119, ty82, ty56, sl56, ty26, sl26, ty101, sl101, ty93, sl93, inR64, inRu64, inRu32, gm_impl_within, Try.f110]
  refine ⟨fun h => ?_, fun h => ?_⟩ <;> simp [h, inB]
def lend_impl_within : List Nat := []
def sp_impl_within : List AV → List Bx → (AV → List Bx → Prop) → Prop
  | [.int .i64 n, .int .i64 l, .int .i64 m], [], K => K (.bool (inB n l m)) []
  | _, _, _ => False
theorem at_impl_within {n l m : Int} {K : AV → List Bx → Prop} : sp_impl_within [.int .i64 n, .int .i64 l, .int .i64 m] [] K = (K (.bool (inB n l m)) []) := id rfl
theorem ok_impl_within : ∀ args giv K, sp_impl_within args giv K → ∃ r outs, ARuns Try.prog 110 args giv r outs ∧ K r outs := by
  intro args giv K hk
  unfold sp_impl_within at hk
  split at hk
  · exact ⟨_, _, runs_impl_within _ _ _ , hk⟩
  · exact hk.elim
theorem is_slices_Clone_int_int : FnIs Try.prog 120 8 [.tmp 2] (Try.f120.body.getD .skip) := ⟨⟨Try.f120, by kernel_rfl, by kernel_rfl, by kernel_rfl, by kernel_rfl⟩, by kernel_rfl, by kernel_rfl⟩
def G_slices_Clone_int_int : Gm := Gm.none
theorem G_slices_Clone_int_int_ok : G_slices_Clone_int_int.ok Try.prog := Gm.none_ok
theorem gm_slices_Clone_int_int {r : List Oper} {n : Nat} : splB G_slices_Clone_int_int r n = true := rfl
set_option maxHeartbeats 1000000 in
set_option maxRecDepth 100000 in
theorem runs_slices_Clone_int_int (xs : List Int) (hp1 : xs.length ≤ 1099511627776) : ARuns Try.prog 120 [.sl none (.ints .i64 xs)] [] (.ref 0 xs.length) [.row 3 (.ints .i64 xs)] := by
  exact ARuns_clone is_slices_Clone_int_int.callable (fun b off n c zs w h1 h2 h3 => Try.slices_Clone_int b off n c zs w h1 h2 h3) (fun n c w => Try.slices_Clone_int_nil n c w) (fun a c w => Try.slices_Clone_int_zero a c w) hp1
def lend_slices_Clone_int_int : List Nat := []
def sp_slices_Clone_int_int : List AV → List Bx → (AV → List Bx → Prop) → Prop
  | [.sl none (.ints .i64 xs)], [], K => (xs.length ≤ 1099511627776) ∧ K (.ref 0 xs.length) [.row 3 (.ints .i64 xs)]
  | _, _, _ => False
theorem at_slices_Clone_int_int {xs : List Int} {K : AV → List Bx → Prop} : sp_slices_Clone_int_int [.sl none (.ints .i64 xs)] [] K = ((xs.length ≤ 1099511627776) ∧ K (.ref 0 xs.length) [.row 3 (.ints .i64 xs)]) := id rfl
theorem ok_slices_Clone_int_int : ∀ args giv K, sp_slices_Clone_int_int args giv K → ∃ r outs, ARuns Try.prog 120 args giv r outs ∧ K r outs := by
  intro args giv K hk
  unfold sp_slices_Clone_int_int at hk
  split at hk
  · obtain ⟨hp1, hk⟩ := hk; exact ⟨_, _, runs_slices_Clone_int_int _ hp1, hk⟩
  · exact hk.elim
theorem is_impl_SymmetricChains : FnIs Try.prog 34 73 [.tmp 2, .tmp 3] (Try.f34.body.getD .skip) := ⟨⟨Try.f34, by kernel_rfl, by kernel_rfl, by kernel_rfl, by kernel_rfl⟩, by kernel_rfl, by kernel_rfl⟩
def G_impl_SymmetricChains : Gm := ((Gm.none.add 110 lend_impl_within sp_impl_within).add 120 lend_slices_Clone_int_int sp_slices_Clone_int_int)
theorem G_impl_SymmetricChains_ok : G_impl_SymmetricChains.ok Try.prog := (Gm.add_ok (Gm.add_ok Gm.none_ok ok_impl_within) ok_slices_Clone_int_int)
theorem gm_impl_SymmetricChains {r : List Oper} {n : Nat} : splB G_impl_SymmetricChains r n = true := rfl
theorem gs_impl_SymmetricChains_110 : G_impl_SymmetricChains.sp 110 = sp_impl_within ∧ G_impl_SymmetricChains.lend 110 = lend_impl_within := ⟨rfl, rfl⟩
theorem gs_impl_SymmetricChains_120 : G_impl_SymmetricChains.sp 120 = sp_slices_Clone_int_int ∧ G_impl_SymmetricChains.lend 120 = lend_slices_Clone_int_int := ⟨rfl, rfl⟩
set_option maxHeartbeats 1000000 in
set_option maxRecDepth 100000 in
theorem runs_impl_SymmetricChains_own (n : Int) : ARuns Try.prog 34 [.int .i64 n] [] (.tup [.ref 0 (scO n).length, .bool (inB n 0 6)]) [.row 24 (.rows (some 3) (scO n))] := by
  refine ARuns_bc G_impl_SymmetricChains_ok is_impl_SymmetricChains (by simp) fun hl hlB => ?_
  simp only [kcode_at, kreg_at, bc_skip, bc_seq, bc_cond, bc_block, bc_exit, bc_ret, bc_region, lkX_cons, acond_tmp, aCase_t, aCase_f, aCase_b, afin_nil, cvE_some, resL, resV, resC, cv, cvL, pack, entryE, inPrm, entryB, inPrms, bxCells, Option.getD_some, acall_clo, add_sp, add_lend, kcall_nil, selOf, selC, selA, inArgs, inA, inL, okA, okL, okBx, okC, outA, outL, outU, outB, deep, deepL, boxIds, AV.bid, List.map_nil, List.map_cons, List.all_nil, List.all_cons, BEq.rfl, Bool.and_true, Bool.true_and, List.append_nil, aops_nil, aops_plain, aops_guard, kont_at, yes_at, no_at, aop_move, aop_assign, aop_pick, aop_alloc, aop_box, aop_build, aop_buildSlice, aop_load, aop_store, aop_nilCheck, aop_binOp, aop_unOp, aop_convert, aop_fieldAddr, aop_indexAddr, aop_slice, aop_extract, aop_makeSlice, aop_len, aop_max, aMax_int, slTy2, SC0, aop_append, aop_call, evalE, getE, putE, getB, setB, St.put, setsB, nth, AV.ofV, AV.blk, AV.bid, AV.one, SC.len, SC.get, List.length_nil, List.length_cons, Nat.reduceEqDiff, Nat.reduceAdd, ↓reduceIte, true_and, and_true, Bool.true_eq_false, Bool.false_eq_true, false_imp_iff, true_imp_iff, decide_eq_true_eq, Bool.not_eq_true', Bool.not_eq_false', decide_eq_false_iff_not, Option.isSome, List.nil_append, List.cons_append, aGuardO_some, aGuard_tt, aGuard_tf, aGuard_ft, aGuard_ff, aGuard_tb, aGuard_fb, aGuard_ts, aGuard_fs, aPick_b, aPick_t, aPick_f, aAlloc_one, aAlloc_flat, aBox_some, aBuild_flat, aInt_add, aBin_add, aInt_sub, aBin_sub, aInt_mul, aBin_mul, aInt_quo, aBin_quo, aInt_rem, aBin_rem, aInt_and, aBin_and, aInt_or, aBin_or, aInt_xor, aBin_xor, aInt_andNot, aBin_andNot, aInt_eql, aBin_eql, aInt_neq, aBin_neq, aInt_lss, aBin_lss, aInt_leq, aBin_leq, aInt_gtr, aBin_gtr, aInt_geq, aBin_geq, aBin_shl, aBin_shr, aShift_shl, aShift_shr, aBin_be1, aBin_bn1, aBin_be2, aBin_bn2, aBin_be3, aBin_bn3, aBin_be4, aBin_bn4, aBin_be5, aBin_bn5, aBin_be6, aBin_bn6, aBin_be7, aBin_bn7, aBin_be8, aBin_bn8, aBin_be9, aBin_bn9, aUn_b, aUn_t, aUn_f, aUn_i, aNil_ptr, aNil_pv, aConv_int, aField_ptr, aField_pv, aIdx_sl, aIdx_prm, aIdx_row, aIdx_drow, aMake_i, aMake_s, aExtr_tup, aLen_ref, aLen_nil, aLen_sl, aLen_prm, aLen_str, aBuildL_some, aBuildS_some, aLoad_1b, aLoad_1d, aLoad_fb, aLoad_fd, aLoad_1p, aLoad_fp, aLoad_ep, aLoad_rr, aLoad_rd, aStore_1, aStore_f, aStore_r, aApp_some, aAppend_nil, aAppend_ref, aSlice_h, aSlice_l, aSlice_lh, aop_slice3, aSlice3_r, aop_field, aFld_agg, aBinW_f, aBinW_t, aWrap_mul, aWrap_add, isW_tmp, isW_mulc, isW_addc, isW_sub, isW_quo, isW_rem, isW_and, isW_or, isW_xor, isW_andNot, isW_shl, isW_shr, isW_eql, isW_neq, isW_lss, isW_leq, isW_gtr, isW_geq, Int.reduceLT, aBinW_dF, aBinW_dT, bc_draw, kregD_at, aopsD_nil, aopsD_plain, aopsD_guard, kontD_at, splW_t, splW_f, contD_at, yesD_at, noD_at, splD_bool, splD_undef, splD_skip, splD_int, splD_tt, splD_ff, splD_str, splD_nil, splD_sl, splD_prm, splD_ref, splD_ptr, splD_rp, splD_ep, splD_pv, splD_agg, splD_tup, splD_clo, gD_tt, gD_tf, gD_ft, gD_ff, gD_ts, gD_fs, slotO_some, addTr_nil, addTr_cons, memQ_nil, memQ_cons, clash_nil, clash_cons, regC_none, regC_nil, regC_cons, regR_nil, regR_cons, Int.toNat_zero, Int.toNat_one, rng0, rng1, rng2, rng3, rng4, SC.take, SC.drop, mp_nil, acond_ct, acond_cf, mp_one0, mp_one1, mp_one2, mp_one3, kcall_one, liveB_row, liveB_box, idx, cont, still, dies, lend, lendA, lendDies, snocs, SC.snoc, SC.app, meet, AV.cells, fillA, List.getD_cons_zero, List.getD_cons_succ, List.set_cons_zero, List.set_cons_succ, List.length_singleton, Nat.le_refl, Nat.lt_irrefl, Nat.reduceLT, Nat.reduceLeDiff, Option.map_some, Option.map_none, List.flatMap_nil, List.flatMap_cons, Nat.zero_add, BEq.rfl, kcall_two, mp_two0, mp_two1, mp_two2, mp_two3, mp_two4, aop_makeFunc, plainA, Bool.true_and, sl3, ty3, un3, sl78, ty78, un78, sl106, ty106, un106, sl104, ty104, un104, sl5, ty5, un5, sl2, ty2, un2, sl21, ty21, un21, sl4, ty4, un4, sl9, un9, sl24, ty24, un24, sl22, ty22, un22, sl42, ty42, un42, sl47, sl82, sl68, sl107, sl115, sl119, ty82, ty56, sl56, ty26, sl26, ty101, sl101, ty93, sl93, inR64, inRu64, inRu32, gm_impl_SymmetricChains, gs_impl_SymmetricChains_110, at_impl_within, lend_impl_within, gs_impl_SymmetricChains_120, at_slices_Clone_int_int, lend_slices_Clone_int_int, Try.f34]
  refine ⟨fun h => ?_, fun h => ?_⟩
  · rw [scO, h]
    exact afin_ofN [(2, 24, .rows (some 3) [])] [0] rfl rfl (by simp only [resL, resV, resC, getE, putE, getB, setB, lifts, liftOne, liftC, liftK, killB, cellsOfB, List.length_cons, List.length_nil, List.nil_append, List.cons_append, Nat.reduceAdd, Nat.reduceEqDiff, ↓reduceIte, ty3, ty78, ty106, ty104, ty5, ty2, ty21, ty4, ty24, ty22, ty42, ty82, ty56, ty26, ty101, ty93]; rfl) (by simp [St.conv, St.bf, getE, putE, getB, cv, cvL, cvB, idx, still, pack, lifts, liftOne, liftC, liftK, killB, cellsOfB, setB]) (by simp [St.conv, St.bf, getE, putE, getB, cv, cvL, cvB, idx, still, pack, lifts, liftOne, liftC, liftK, killB, cellsOfB, setB])
  rw [scO, if_pos h, h]
  rw [inB_t] at h
  obtain ⟨N, rfl⟩ := Int.eq_ofNat_of_zero_le h.1
  simp only [Int.toNat_natCast]
  have hN : N ≤ 6 := by omega
  refine bc_loop (fun e : Nat => e ≤ N)
    (fun e => ⟨[(4, .ref 0 (symF e).length), (19, .int .i64 N), (20, .int .i64 e)], [.row 24 (.rows (some 3) (symF e))]⟩) (fun e => N - e)
    [4, 19, 20] [1] 0 rfl (by simp [St.conv, St.bf, getE, putE, getB, cv, cvL, cvB, idx, still, pack, lifts, liftOne, liftC, liftK, killB, cellsOfB, setB]; exact ⟨rfl, rfl⟩) (by omega) fun e he => ?_
  simp only [kcode_at, kreg_at, bc_skip, bc_seq, bc_cond, bc_block, bc_exit, bc_ret, bc_region, lkX_cons, acond_tmp, aCase_t, aCase_f, aCase_b, afin_nil, cvE_some, resL, resV, resC, cv, cvL, pack, entryE, inPrm, entryB, inPrms, bxCells, Option.getD_some, acall_clo, add_sp, add_lend, kcall_nil, selOf, selC, selA, inArgs, inA, inL, okA, okL, okBx, okC, outA, outL, outU, outB, deep, deepL, boxIds, AV.bid, List.map_nil, List.map_cons, List.all_nil, List.all_cons, BEq.rfl, Bool.and_true, Bool.true_and, List.append_nil, aops_nil, aops_plain, aops_guard, kont_at, yes_at, no_at, aop_move, aop_assign, aop_pick, aop_alloc, aop_box, aop_build, aop_buildSlice, aop_load, aop_store, aop_nilCheck, aop_binOp, aop_unOp, aop_convert, aop_fieldAddr, aop_indexAddr, aop_slice, aop_extract, aop_makeSlice, aop_len, aop_max, aMax_int, slTy2, SC0, aop_append, aop_call, evalE, getE, putE, getB, setB, St.put, setsB, nth, AV.ofV, AV.blk, AV.bid, AV.one, SC.len, SC.get, List.length_nil, List.length_cons, Nat.reduceEqDiff, Nat.reduceAdd, ↓reduceIte, true_and, and_true, Bool.true_eq_false, Bool.false_eq_true, false_imp_iff, true_imp_iff, decide_eq_true_eq, Bool.not_eq_true', Bool.not_eq_false', decide_eq_false_iff_not, Option.isSome, List.nil_append, List.cons_append, aGuardO_some, aGuard_tt, aGuard_tf, aGuard_ft, aGuard_ff, aGuard_tb, aGuard_fb, aGuard_ts, aGuard_fs, aPick_b, aPick_t, aPick_f, aAlloc_one, aAlloc_flat, aBox_some, aBuild_flat, aInt_add, aBin_add, aInt_sub, aBin_sub, aInt_mul, aBin_mul, aInt_quo, aBin_quo, aInt_rem, aBin_rem, aInt_and, aBin_and, aInt_or, aBin_or, aInt_xor, aBin_xor, aInt_andNot, aBin_andNot, aInt_eql, aBin_eql, aInt_neq, aBin_neq, aInt_lss, aBin_lss, aInt_leq, aBin_leq, aInt_gtr, aBin_gtr, aInt_geq, aBin_geq, aBin_shl, aBin_shr, aShift_shl, aShift_shr, aBin_be1, aBin_bn1, aBin_be2, aBin_bn2, aBin_be3, aBin_bn3, aBin_be4, aBin_bn4, aBin_be5, aBin_bn5, aBin_be6, aBin_bn6, aBin_be7, aBin_bn7, aBin_be8, aBin_bn8, aBin_be9, aBin_bn9, aUn_b, aUn_t, aUn_f, aUn_i, aNil_ptr, aNil_pv, aConv_int, aField_ptr, aField_pv, aIdx_sl, aIdx_prm, aIdx_row, aIdx_drow, aMake_i, aMake_s, aExtr_tup, aLen_ref, aLen_nil, aLen_sl, aLen_prm, aLen_str, aBuildL_some, aBuildS_some, aLoad_1b, aLoad_1d, aLoad_fb, aLoad_fd, aLoad_1p, aLoad_fp, aLoad_ep, aLoad_rr, aLoad_rd, aStore_1, aStore_f, aStore_r, aApp_some, aAppend_nil, aAppend_ref, aSlice_h, aSlice_l, aSlice_lh, aop_slice3, aSlice3_r, aop_field, aFld_agg, aBinW_f, aBinW_t, aWrap_mul, aWrap_add, isW_tmp, isW_mulc, isW_addc, isW_sub, isW_quo, isW_rem, isW_and, isW_or, isW_xor, isW_andNot, isW_shl, isW_shr, isW_eql, isW_neq, isW_lss, isW_leq, isW_gtr, isW_geq, Int.reduceLT, aBinW_dF, aBinW_dT, bc_draw, kregD_at, aopsD_nil, aopsD_plain, aopsD_guard, kontD_at, splW_t, splW_f, contD_at, yesD_at, noD_at, splD_bool, splD_undef, splD_skip, splD_int, splD_tt, splD_ff, splD_str, splD_nil, splD_sl, splD_prm, splD_ref, splD_ptr, splD_rp, splD_ep, splD_pv, splD_agg, splD_tup, splD_clo, gD_tt, gD_tf, gD_ft, gD_ff, gD_ts, gD_fs, slotO_some, addTr_nil, addTr_cons, memQ_nil, memQ_cons, clash_nil, clash_cons, regC_none, regC_nil, regC_cons, regR_nil, regR_cons, Int.toNat_zero, Int.toNat_one, rng0, rng1, rng2, rng3, rng4, SC.take, SC.drop, mp_nil, acond_ct, acond_cf, mp_one0, mp_one1, mp_one2, mp_one3, kcall_one, liveB_row, liveB_box, idx, cont, still, dies, lend, lendA, lendDies, snocs, SC.snoc, SC.app, meet, AV.cells, fillA, List.getD_cons_zero, List.getD_cons_succ, List.set_cons_zero, List.set_cons_succ, List.length_singleton, Nat.le_refl, Nat.lt_irrefl, Nat.reduceLT, Nat.reduceLeDiff, Option.map_some, Option.map_none, List.flatMap_nil, List.flatMap_cons, Nat.zero_add, BEq.rfl, kcall_two, mp_two0, mp_two1, mp_two2, mp_two3, mp_two4, aop_makeFunc, plainA, Bool.true_and, sl3, ty3, un3, sl78, ty78, un78, sl106, ty106, un106, sl104, ty104, un104, sl5, ty5, un5, sl2, ty2, un2, sl21, ty21, un21, sl4, ty4, un4, sl9, un9, sl24, ty24, un24, sl22, ty22, un22, sl42, ty42, un42, sl47, sl82, sl68, sl107, sl115, sl119, ty82, ty56, sl56, ty26, sl26, ty101, sl101, ty93, sl93, inR64, inRu64, inRu32, gm_impl_SymmetricChains, gs_impl_SymmetricChains_110, at_impl_within, lend_impl_within, gs_impl_SymmetricChains_120, at_slices_Clone_int_int, lend_slices_Clone_int_int, Int.toNat_natCast]
  have hb := symF_len (e := e)
  have hb2 : 2 ^ e ≤ 2 ^ 6 := Nat.pow_le_pow_right (by omega) (by omega)
  have hd : ∀ q, q ∈ symF e → 1 ≤ q.length ∧ q.length ≤ e + 1 := fun q hq => symF_row hq
  refine ⟨fun hlt => ?_, fun hge => ?_⟩
  · have hs : symF (e + 1) = symS (1 * 2 ^ e) (symF e) := rfl
    generalize symF e = L at *
    have hp : (2 : Int) ^ e = ((2 ^ e : Nat) : Int) := by simp
    have he2 : (e : Int) ≤ 64 := by omega
    refine ⟨by omega, ⟨by omega, he2, by omega, by omega⟩, ?_⟩
    refine bc_loopN [(7, 24, .rows (some 3) [])] (fun i : Nat => i ≤ L.length)
      (fun i => ⟨[(6, .int .i64 (1 * 2 ^ e)), (7, .ref 1 (symS (1 * 2 ^ e) (L.take i)).length), (19, .int .i64 N), (20, .int .i64 e), (26, .ref 0 L.length), (27, .int .i64 L.length), (28, .int .i64 i)],
        [.row 24 (.rows (some 3) L), .row 24 (.rows (some 3) (symS (1 * 2 ^ e) (L.take i)))]⟩) (fun i => L.length - i)
      [6, 7, 19, 20, 26, 27, 28] [0, 1] 0 rfl rfl (by simp [St.conv, St.bf, getE, putE, getB, cv, cvL, cvB, idx, still, pack, lifts, liftOne, liftC, liftK, killB, cellsOfB, setB]; simp [symS]) (by simp) fun i hi => ?_
    simp only [kcode_at, kreg_at, bc_skip, bc_seq, bc_cond, bc_block, bc_exit, bc_ret, bc_region, lkX_cons, acond_tmp, aCase_t, aCase_f, aCase_b, afin_nil, cvE_some, resL, resV, resC, cv, cvL, pack, entryE, inPrm, entryB, inPrms, bxCells, Option.getD_some, acall_clo, add_sp, add_lend, kcall_nil, selOf, selC, selA, inArgs, inA, inL, okA, okL, okBx, okC, outA, outL, outU, outB, deep, deepL, boxIds, AV.bid, List.map_nil, List.map_cons, List.all_nil, List.all_cons, BEq.rfl, Bool.and_true, Bool.true_and, List.append_nil, aops_nil, aops_plain, aops_guard, kont_at, yes_at, no_at, aop_move, aop_assign, aop_pick, aop_alloc, aop_box, aop_build, aop_buildSlice, aop_load, aop_store, aop_nilCheck, aop_binOp, aop_unOp, aop_convert, aop_fieldAddr, aop_indexAddr, aop_slice, aop_extract, aop_makeSlice, aop_len, aop_max, aMax_int, slTy2, SC0, aop_append, aop_call, evalE, getE, putE, getB, setB, St.put, setsB, nth, AV.ofV, AV.blk, AV.bid, AV.one, SC.len, SC.get, List.length_nil, List.length_cons, Nat.reduceEqDiff, Nat.reduceAdd, ↓reduceIte, true_and, and_true, Bool.true_eq_false, Bool.false_eq_true, false_imp_iff, true_imp_iff, decide_eq_true_eq, Bool.not_eq_true', Bool.not_eq_false', decide_eq_false_iff_not, Option.isSome, List.nil_append, List.cons_append, aGuardO_some, aGuard_tt, aGuard_tf, aGuard_ft, aGuard_ff, aGuard_tb, aGuard_fb, aGuard_ts, aGuard_fs, aPick_b, aPick_t, aPick_f, aAlloc_one, aAlloc_flat, aBox_some, aBuild_flat, aInt_add, aBin_add, aInt_sub, aBin_sub, aInt_mul, aBin_mul, aInt_quo, aBin_quo, aInt_rem, aBin_rem, aInt_and, aBin_and, aInt_or, aBin_or, aInt_xor, aBin_xor, aInt_andNot, aBin_andNot, aInt_eql, aBin_eql, aInt_neq, aBin_neq, aInt_lss, aBin_lss, aInt_leq, aBin_leq, aInt_gtr, aBin_gtr, aInt_geq, aBin_geq, aBin_shl, aBin_shr, aShift_shl, aShift_shr, aBin_be1, aBin_bn1, aBin_be2, aBin_bn2, aBin_be3, aBin_bn3, aBin_be4, aBin_bn4, aBin_be5, aBin_bn5, aBin_be6, aBin_bn6, aBin_be7, aBin_bn7, aBin_be8, aBin_bn8, aBin_be9, aBin_bn9, aUn_b, aUn_t, aUn_f, aUn_i, aNil_ptr, aNil_pv, aConv_int, aField_ptr, aField_pv, aIdx_sl, aIdx_prm, aIdx_row, aIdx_drow, aMake_i, aMake_s, aExtr_tup, aLen_ref, aLen_nil, aLen_sl, aLen_prm, aLen_str, aBuildL_some, aBuildS_some, aLoad_1b, aLoad_1d, aLoad_fb, aLoad_fd, aLoad_1p, aLoad_fp, aLoad_ep, aLoad_rr, aLoad_rd, aStore_1, aStore_f, aStore_r, aApp_some, aAppend_nil, aAppend_ref, aSlice_h, aSlice_l, aSlice_lh, aop_slice3, aSlice3_r, aop_field, aFld_agg, aBinW_f, aBinW_t, aWrap_mul, aWrap_add, isW_tmp, isW_mulc, isW_addc, isW_sub, isW_quo, isW_rem, isW_and, isW_or, isW_xor, isW_andNot, isW_shl, isW_shr, isW_eql, isW_neq, isW_lss, isW_leq, isW_gtr, isW_geq, Int.reduceLT, aBinW_dF, aBinW_dT, bc_draw, kregD_at, aopsD_nil, aopsD_plain, aopsD_guard, kontD_at, splW_t, splW_f, contD_at, yesD_at, noD_at, splD_bool, splD_undef, splD_skip, splD_int, splD_tt, splD_ff, splD_str, splD_nil, splD_sl, splD_prm, splD_ref, splD_ptr, splD_rp, splD_ep, splD_pv, splD_agg, splD_tup, splD_clo, gD_tt, gD_tf, gD_ft, gD_ff, gD_ts, gD_fs, slotO_some, addTr_nil, addTr_cons, memQ_nil, memQ_cons, clash_nil, clash_cons, regC_none, regC_nil, regC_cons, regR_nil, regR_cons, Int.toNat_zero, Int.toNat_one, rng0, rng1, rng2, rng3, rng4, SC.take, SC.drop, mp_nil, acond_ct, acond_cf, mp_one0, mp_one1, mp_one2, mp_one3, kcall_one, liveB_row, liveB_box, idx, cont, still, dies, lend, lendA, lendDies, snocs, SC.snoc, SC.app, meet, AV.cells, fillA, List.getD_cons_zero, List.getD_cons_succ, List.set_cons_zero, List.set_cons_succ, List.length_singleton, Nat.le_refl, Nat.lt_irrefl, Nat.reduceLT, Nat.reduceLeDiff, Option.map_some, Option.map_none, List.flatMap_nil, List.flatMap_cons, Nat.zero_add, BEq.rfl, kcall_two, mp_two0, mp_two1, mp_two2, mp_two3, mp_two4, aop_makeFunc, plainA, Bool.true_and, sl3, ty3, un3, sl78, ty78, un78, sl106, ty106, un106, sl104, ty104, un104, sl5, ty5, un5, sl2, ty2, un2, sl21, ty21, un21, sl4, ty4, un4, sl9, un9, sl24, ty24, un24, sl22, ty22, un22, sl42, ty42, un42, sl47, sl82, sl68, sl107, sl115, sl119, ty82, ty56, sl56, ty26, sl26, ty101, sl101, ty93, sl93, inR64, inRu64, inRu32, gm_impl_SymmetricChains, gs_impl_SymmetricChains_110, at_impl_within, lend_impl_within, gs_impl_SymmetricChains_120, at_slices_Clone_int_int, lend_slices_Clone_int_int, Int.toNat_natCast, List.length_append, List.length_singleton]
    refine ⟨fun hlt2 => ?_, fun hge2 => ?_⟩
    · have hm := hd _ (getR_mem (ls := L) (i := i) (by omega))
      have hst := symS_take (b := 1 * 2 ^ e) (L := L) (i := i) (by omega)
      have hsl := symS_len (b := 1 * 2 ^ e) (L := L.take i)
      generalize L.getD i [] = c at *
      have ht : ((c.length : Int) - 1).toNat = c.length - 1 := by omega
      simp only [ht]
      have hq : (L.take i).length ≤ 64 := by simp; omega
      refine ⟨by omega, by omega, by omega, by omega, by omega, by omega, by omega, (by (repeat' apply And.intro) <;> (show ordB _ _ _ = true; kernel_rfl)), fun h1 => ⟨by omega, klp_of (i + 1) (by rw [hst, symT, if_pos (by omega)]; simp [St.conv, St.bf, getE, putE, getB, cv, cvL, cvB, idx, still, pack, lifts, liftOne, liftC, liftK, killB, cellsOfB, setB]) (by omega) (by omega)⟩, fun h1 => ⟨by omega, ?_⟩⟩
      generalize hB : symS (1 * 2 ^ e) (L.take i) ++ [c ++ [bor .i64 (c.getD (c.length - 1) 0) (1 * 2 ^ e)]] = S at *
      have hSl : (symS (1 * 2 ^ e) (L.take i)).length + 1 = S.length := by rw [← hB]; simp
      have hk5 : (c.take (c.length - 1)).length = c.length - 1 := by simp
      simp only [hSl, hk5]
      refine bc_loopN [(11, 3, .ints .i64 [])] (fun k : Nat => k ≤ c.length - 1)
        (fun k => ⟨[(6, .int .i64 (1 * 2 ^ e)), (7, .ref 1 S.length), (19, .int .i64 N), (20, .int .i64 e), (26, .ref 0 L.length), (27, .int .i64 L.length), (28, .int .i64 i), (11, .ref 2 ((c.take k).map fun s => bor .i64 s (1 * 2 ^ e)).length), (52, .sl none (.ints .i64 (c.take (c.length - 1)))), (53, .int .i64 (c.length - 1 : Nat)), (54, .int .i64 k)],
          [.row 24 (.rows (some 3) L), .row 24 (.rows (some 3) S), .row 3 (.ints .i64 ((c.take k).map fun s => bor .i64 s (1 * 2 ^ e)))]⟩) (fun k => c.length - 1 - k)
        [6, 7, 19, 20, 26, 27, 28, 11, 52, 53, 54] [0, 1, 5] 0 rfl rfl (by simp [St.conv, St.bf, getE, putE, getB, cv, cvL, cvB, idx, still, pack, lifts, liftOne, liftC, liftK, killB, cellsOfB, setB]) (by simp) fun k hk => ?_
      simp only [kcode_at, kreg_at, bc_skip, bc_seq, bc_cond, bc_block, bc_exit, bc_ret, bc_region, lkX_cons, acond_tmp, aCase_t, aCase_f, aCase_b, afin_nil, cvE_some, resL, resV, resC, cv, cvL, pack, entryE, inPrm, entryB, inPrms, bxCells, Option.getD_some, acall_clo, add_sp, add_lend, kcall_nil, selOf, selC, selA, inArgs, inA, inL, okA, okL, okBx, okC, outA, outL, outU, outB, deep, deepL, boxIds, AV.bid, List.map_nil, List.map_cons, List.all_nil, List.all_cons, BEq.rfl, Bool.and_true, Bool.true_and, List.append_nil, aops_nil, aops_plain, aops_guard, kont_at, yes_at, no_at, aop_move, aop_assign, aop_pick, aop_alloc, aop_box, aop_build, aop_buildSlice, aop_load, aop_store, aop_nilCheck, aop_binOp, aop_unOp, aop_convert, aop_fieldAddr, aop_indexAddr, aop_slice, aop_extract, aop_makeSlice, aop_len, aop_max, aMax_int, slTy2, SC0, aop_append, aop_call, evalE, getE, putE, getB, setB, St.put, setsB, nth, AV.ofV, AV.blk, AV.bid, AV.one, SC.len, SC.get, List.length_nil, List.length_cons, Nat.reduceEqDiff, Nat.reduceAdd, ↓reduceIte, true_and, and_true, Bool.true_eq_false, Bool.false_eq_true, false_imp_iff, true_imp_iff, decide_eq_true_eq, Bool.not_eq_true', Bool.not_eq_false', decide_eq_false_iff_not, Option.isSome, List.nil_append, List.cons_append, aGuardO_some, aGuard_tt, aGuard_tf, aGuard_ft, aGuard_ff, aGuard_tb, aGuard_fb, aGuard_ts, aGuard_fs, aPick_b, aPick_t, aPick_f, aAlloc_one, aAlloc_flat, aBox_some, aBuild_flat, aInt_add, aBin_add, aInt_sub, aBin_sub, aInt_mul, aBin_mul, aInt_quo, aBin_quo, aInt_rem, aBin_rem, aInt_and, aBin_and, aInt_or, aBin_or, aInt_xor, aBin_xor, aInt_andNot, aBin_andNot, aInt_eql, aBin_eql, aInt_neq, aBin_neq, aInt_lss, aBin_lss, aInt_leq, aBin_leq, aInt_gtr, aBin_gtr, aInt_geq, aBin_geq, aBin_shl, aBin_shr, aShift_shl, aShift_shr, aBin_be1, aBin_bn1, aBin_be2, aBin_bn2, aBin_be3, aBin_bn3, aBin_be4, aBin_bn4, aBin_be5, aBin_bn5, aBin_be6, aBin_bn6, aBin_be7, aBin_bn7, aBin_be8, aBin_bn8, aBin_be9, aBin_bn9, aUn_b, aUn_t, aUn_f, aUn_i, aNil_ptr, aNil_pv, aConv_int, aField_ptr, aField_pv, aIdx_sl, aIdx_prm, aIdx_row, aIdx_drow, aMake_i, aMake_s, aExtr_tup, aLen_ref, aLen_nil, aLen_sl, aLen_prm, aLen_str, aBuildL_some, aBuildS_some, aLoad_1b, aLoad_1d, aLoad_fb, aLoad_fd, aLoad_1p, aLoad_fp, aLoad_ep, aLoad_rr, aLoad_rd, aStore_1, aStore_f, aStore_r, aApp_some, aAppend_nil, aAppend_ref, aSlice_h, aSlice_l, aSlice_lh, aop_slice3, aSlice3_r, aop_field, aFld_agg, aBinW_f, aBinW_t, aWrap_mul, aWrap_add, isW_tmp, isW_mulc, isW_addc, isW_sub, isW_quo, isW_rem, isW_and, isW_or, isW_xor, isW_andNot, isW_shl, isW_shr, isW_eql, isW_neq, isW_lss, isW_leq, isW_gtr, isW_geq, Int.reduceLT, aBinW_dF, aBinW_dT, bc_draw, kregD_at, aopsD_nil, aopsD_plain, aopsD_guard, kontD_at, splW_t, splW_f, contD_at, yesD_at, noD_at, splD_bool, splD_undef, splD_skip, splD_int, splD_tt, splD_ff, splD_str, splD_nil, splD_sl, splD_prm, splD_ref, splD_ptr, splD_rp, splD_ep, splD_pv, splD_agg, splD_tup, splD_clo, gD_tt, gD_tf, gD_ft, gD_ff, gD_ts, gD_fs, slotO_some, addTr_nil, addTr_cons, memQ_nil, memQ_cons, clash_nil, clash_cons, regC_none, regC_nil, regC_cons, regR_nil, regR_cons, Int.toNat_zero, Int.toNat_one, rng0, rng1, rng2, rng3, rng4, SC.take, SC.drop, mp_nil, acond_ct, acond_cf, mp_one0, mp_one1, mp_one2, mp_one3, kcall_one, liveB_row, liveB_box, idx, cont, still, dies, lend, lendA, lendDies, snocs, SC.snoc, SC.app, meet, AV.cells, fillA, List.getD_cons_zero, List.getD_cons_succ, List.set_cons_zero, List.set_cons_succ, List.length_singleton, Nat.le_refl, Nat.lt_irrefl, Nat.reduceLT, Nat.reduceLeDiff, Option.map_some, Option.map_none, List.flatMap_nil, List.flatMap_cons, Nat.zero_add, BEq.rfl, kcall_two, mp_two0, mp_two1, mp_two2, mp_two3, mp_two4, aop_makeFunc, plainA, Bool.true_and, sl3, ty3, un3, sl78, ty78, un78, sl106, ty106, un106, sl104, ty104, un104, sl5, ty5, un5, sl2, ty2, un2, sl21, ty21, un21, sl4, ty4, un4, sl9, un9, sl24, ty24, un24, sl22, ty22, un22, sl42, ty42, un42, sl47, sl82, sl68, sl107, sl115, sl119, ty82, ty56, sl56, ty26, sl26, ty101, sl101, ty93, sl93, inR64, inRu64, inRu32, gm_impl_SymmetricChains, gs_impl_SymmetricChains_110, at_impl_within, lend_impl_within, gs_impl_SymmetricChains_120, at_slices_Clone_int_int, lend_slices_Clone_int_int, Int.toNat_natCast, List.length_append, List.length_singleton]
      refine ⟨fun hlt3 => ⟨⟨by omega, by simp; omega⟩, by simp; omega, by omega, klp_ofK [0, 1, 2] rfl (k + 1) ?_ (by omega) (by omega)⟩, fun hge3 => ?_⟩
      · rw [take_succ_getD (by omega), List.map_append, show (c.take (c.length - 1)).getD k 0 = c.getD k 0 from by simp only [List.getD_eq_getElem?_getD, List.getElem?_take, if_pos (show k < c.length - 1 by omega)]]
        simp [St.conv, St.bf, getE, putE, getB, cv, cvL, cvB, idx, still, pack, lifts, liftOne, liftC, liftK, killB, cellsOfB, setB]
      · have : k = c.length - 1 := by omega
        subst this
        have hS : S.length ≤ 200 := by rw [← hB]; simp only [List.length_append, List.length_singleton]; omega
        refine ⟨by omega, by omega, klp_ofK [0, 1] rfl (i + 1) ?_ (by omega) (by omega)⟩
        have e5 : symS (1 * 2 ^ e) (L.take (i + 1)) = S ++ [(c.take (c.length - 1)).map fun s => bor .i64 s (1 * 2 ^ e)] := by rw [hst, symT, if_neg (by omega), ← hB]; simp
        rw [e5]
        simp [St.conv, St.bf, getE, putE, getB, cv, cvL, cvB, idx, still, pack, lifts, liftOne, liftC, liftK, killB, cellsOfB, setB]
    · have : i = L.length := by omega
      subst this
      rw [List.take_length]
      exact ⟨by omega, klp_ofK [1] rfl (e + 1) (by rw [hs]; simp [St.conv, St.bf, getE, putE, getB, cv, cvL, cvB, idx, still, pack, lifts, liftOne, liftC, liftK, killB, cellsOfB, setB]) (by omega) (by omega)⟩
  · have : e = N := by omega
    subst this
    exact afin_of [0] rfl rfl (by simp [St.conv, St.bf, getE, putE, getB, cv, cvL, cvB, idx, still, pack, lifts, liftOne, liftC, liftK, killB, cellsOfB, setB]) (by simp [St.conv, St.bf, getE, putE, getB, cv, cvL, cvB, idx, still, pack, lifts, liftOne, liftC, liftK, killB, cellsOfB, setB])
theorem runs_impl_SymmetricChains (n : Int) : ARuns Try.prog 34 [.int .i64 n] [] (.tup [.ref 0 (scO n).length, .bool (inB n 0 6)]) [.grid 24 3 (scO n)] := ARuns_grid (runs_impl_SymmetricChains_own n ) (by simp [calmA, calmL]) (fun i hi => scO_ne hi) (fun i j hi hj h => scO_hd hi hj h)
def lend_impl_SymmetricChains : List Nat := []
def sp_impl_SymmetricChains : List AV → List Bx → (AV → List Bx → Prop) → Prop
  | [.int .i64 n], [], K => K (.tup [.ref 0 (scO n).length, .bool (inB n 0 6)]) [.grid 24 3 (scO n)]
  | _, _, _ => False
theorem at_impl_SymmetricChains {n : Int} {K : AV → List Bx → Prop} : sp_impl_SymmetricChains [.int .i64 n] [] K = (K (.tup [.ref 0 (scO n).length, .bool (inB n 0 6)]) [.grid 24 3 (scO n)]) := id rfl
theorem ok_impl_SymmetricChains : ∀ args giv K, sp_impl_SymmetricChains args giv K → ∃ r outs, ARuns Try.prog 34 args giv r outs ∧ K r outs := by
  intro args giv K hk
  unfold sp_impl_SymmetricChains at hk
  split at hk
  · exact ⟨_, _, runs_impl_SymmetricChains _ , hk⟩
  · exact hk.elim
theorem is_laws_eqIntS : FnIs Try.prog 121 26 [.tmp 4] (Try.f121.body.getD .skip) := ⟨⟨Try.f121, by kernel_rfl, by kernel_rfl, by kernel_rfl, by kernel_rfl⟩, by kernel_rfl, by kernel_rfl⟩
def G_laws_eqIntS : Gm := Gm.none
theorem G_laws_eqIntS_ok : G_laws_eqIntS.ok Try.prog := Gm.none_ok
theorem gm_laws_eqIntS {r : List Oper} {n : Nat} : splB G_laws_eqIntS r n = true := rfl
set_option maxHeartbeats 1000000 in
set_option maxRecDepth 100000 in
theorem runs_laws_eqIntS (xs ys : List Int) : ARuns Try.prog 121 [.sl none (.ints .i64 xs), .sl none (.ints .i64 ys)] [] (.bool (decide (xs = ys))) [] := by
  refine ARuns_bc G_laws_eqIntS_ok is_laws_eqIntS (by simp) fun hl hlB => ?_
  simp only [kcode_at, kreg_at, bc_skip, bc_seq, bc_cond, bc_block, bc_exit, bc_ret, bc_region, lkX_cons, acond_tmp, aCase_t, aCase_f, aCase_b, afin_nil, cvE_some, resL, resV, resC, cv, cvL, pack, entryE, inPrm, entryB, inPrms, bxCells, Option.getD_some, acall_clo, add_sp, add_lend, kcall_nil, selOf, selC, selA, inArgs, inA, inL, okA, okL, okBx, okC, outA, outL, outU, outB, deep, deepL, boxIds, AV.bid, List.map_nil, List.map_cons, List.all_nil, List.all_cons, BEq.rfl, Bool.and_true, Bool.true_and, List.append_nil, aops_nil, aops_plain, aops_guard, kont_at, yes_at, no_at, aop_move, aop_assign, aop_pick, aop_alloc, aop_box, aop_build, aop_buildSlice, aop_load, aop_store, aop_nilCheck, aop_binOp, aop_unOp, aop_convert, aop_fieldAddr, aop_indexAddr, aop_slice, aop_extract, aop_makeSlice, aop_len, aop_max, aMax_int, slTy2, SC0, aop_append, aop_call, evalE, getE, putE, getB, setB, St.put, setsB, nth, AV.ofV, AV.blk, AV.bid, AV.one, SC.len, SC.get, List.length_nil, List.length_cons, Nat.reduceEqDiff, Nat.reduceAdd, ↓reduceIte, true_and, and_true, Bool.true_eq_false, Bool.false_eq_true, false_imp_iff, true_imp_iff, decide_eq_true_eq, Bool.not_eq_true', Bool.not_eq_false', decide_eq_false_iff_not, Option.isSome, List.nil_append, List.cons_append, aGuardO_some, aGuard_tt, aGuard_tf, aGuard_ft, aGuard_ff, aGuard_tb, aGuard_fb, aGuard_ts, aGuard_fs, aPick_b, aPick_t, aPick_f, aAlloc_one, aAlloc_flat, aBox_some, aBuild_flat, aInt_add, aBin_add, aInt_sub, aBin_sub, aInt_mul, aBin_mul, aInt_quo, aBin_quo, aInt_rem, aBin_rem, aInt_and, aBin_and, aInt_or, aBin_or, aInt_xor, aBin_xor, aInt_andNot, aBin_andNot, aInt_eql, aBin_eql, aInt_neq, aBin_neq, aInt_lss, aBin_lss, aInt_leq, aBin_leq, aInt_gtr, aBin_gtr, aInt_geq, aBin_geq, aBin_shl, aBin_shr, aShift_shl, aShift_shr, aBin_be1, aBin_bn1, aBin_be2, aBin_bn2, aBin_be3, aBin_bn3, aBin_be4, aBin_bn4, aBin_be5, aBin_bn5, aBin_be6, aBin_bn6, aBin_be7, aBin_bn7, aBin_be8, aBin_bn8, aBin_be9, aBin_bn9, aUn_b, aUn_t, aUn_f, aUn_i, aNil_ptr, aNil_pv, aConv_int, aField_ptr, aField_pv, aIdx_sl, aIdx_prm, aIdx_row, aIdx_drow, aMake_i, aMake_s, aExtr_tup, aLen_ref, aLen_nil, aLen_sl, aLen_prm, aLen_str, aBuildL_some, aBuildS_some, aLoad_1b, aLoad_1d, aLoad_fb, aLoad_fd, aLoad_1p, aLoad_fp, aLoad_ep, aLoad_rr, aLoad_rd, aStore_1, aStore_f, aStore_r, aApp_some, aAppend_nil, aAppend_ref, aSlice_h, aSlice_l, aSlice_lh, aop_slice3, aSlice3_r, aop_field, aFld_agg, aBinW_f, aBinW_t, aWrap_mul, aWrap_add, isW_tmp, isW_mulc, isW_addc, isW_sub, isW_quo, isW_rem, isW_and, isW_or, isW_xor, isW_andNot, isW_shl, isW_shr, isW_eql, isW_neq, isW_lss, isW_leq, isW_gtr, isW_geq, Int.reduceLT, aBinW_dF, aBinW_dT, bc_draw, kregD_at, aopsD_nil, aopsD_plain, aopsD_guard, kontD_at, splW_t, splW_f, contD_at, yesD_at, noD_at, splD_bool, splD_undef, splD_skip, splD_int, splD_tt, splD_ff, splD_str, splD_nil, splD_sl, splD_prm, splD_ref, splD_ptr, splD_rp, splD_ep, splD_pv, splD_agg, splD_tup, splD_clo, gD_tt, gD_tf, gD_ft, gD_ff, gD_ts, gD_fs, slotO_some, addTr_nil, addTr_cons, memQ_nil, memQ_cons, clash_nil, clash_cons, regC_none, regC_nil, regC_cons, regR_nil, regR_cons, Int.toNat_zero, Int.toNat_one, rng0, rng1, rng2, rng3, rng4, SC.take, SC.drop, mp_nil, acond_ct, acond_cf, mp_one0, mp_one1, mp_one2, mp_one3, kcall_one, liveB_row, liveB_box, idx, cont, still, dies, lend, lendA, lendDies, snocs, SC.snoc, SC.app, meet, AV.cells, fillA, List.getD_cons_zero, List.getD_cons_succ, List.set_cons_zero, List.set_cons_succ, List.length_singleton, Nat.le_refl, Nat.lt_irrefl, Nat.reduceLT, Nat.reduceLeDiff, Option.map_some, Option.map_none, List.flatMap_nil, List.flatMap_cons, Nat.zero_add, BEq.rfl, kcall_two, mp_two0, mp_two1, mp_two2, mp_two3, mp_two4, aop_makeFunc, plainA, Bool.true_and, sl3, ty3, un3, sl78, ty78, un78, sl106, ty106, un106, sl104, ty104, un104, sl5, ty5, un5, sl2, ty2, un2, sl21, ty21, un21, sl4, ty4, un4, sl9, un9, sl24, ty24, un24, sl22, ty22, un22, sl42, ty42, un42, sl47, sl82, sl68, sl107, sl115, sl119, ty82, ty56, sl56, ty26, sl26, ty101, sl101, ty93, sl93, inR64, inRu64, inRu32, gm_laws_eqIntS, Try.f121]
  simp only [lensA, lenA, lenSC] at hl
  refine ⟨fun h => ?_, fun h => ?_⟩
  · congr 1; symm; simp; intro e; rw [e] at h; exact h rfl
  replace h : xs.length = ys.length := by omega
  refine bc_loop (fun i : Nat => i ≤ xs.length ∧ ∀ k, k < i → xs.getD k 0 = ys.getD k 0)
    (fun i => ⟨[(0, .prm 0 (.ints .i64 xs)), (1, .prm 1 (.ints .i64 ys)), (5, .int .i64 i)], []⟩) (fun i => xs.length - i)
    [0, 1, 5] [] 0 rfl rfl (by simp) fun i ⟨h1, h2⟩ => ?_
  simp only [kcode_at, kreg_at, bc_skip, bc_seq, bc_cond, bc_block, bc_exit, bc_ret, bc_region, lkX_cons, acond_tmp, aCase_t, aCase_f, aCase_b, afin_nil, cvE_some, resL, resV, resC, cv, cvL, pack, entryE, inPrm, entryB, inPrms, bxCells, Option.getD_some, acall_clo, add_sp, add_lend, kcall_nil, selOf, selC, selA, inArgs, inA, inL, okA, okL, okBx, okC, outA, outL, outU, outB, deep, deepL, boxIds, AV.bid, List.map_nil, List.map_cons, List.all_nil, List.all_cons, BEq.rfl, Bool.and_true, Bool.true_and, List.append_nil, aops_nil, aops_plain, aops_guard, kont_at, yes_at, no_at, aop_move, aop_assign, aop_pick, aop_alloc, aop_box, aop_build, aop_buildSlice, aop_load, aop_store, aop_nilCheck, aop_binOp, aop_unOp, aop_convert, aop_fieldAddr, aop_indexAddr, aop_slice, aop_extract, aop_makeSlice, aop_len, aop_max, aMax_int, slTy2, SC0, aop_append, aop_call, evalE, getE, putE, getB, setB, St.put, setsB, nth, AV.ofV, AV.blk, AV.bid, AV.one, SC.len, SC.get, List.length_nil, List.length_cons, Nat.reduceEqDiff, Nat.reduceAdd, ↓reduceIte, true_and, and_true, Bool.true_eq_false, Bool.false_eq_true, false_imp_iff, true_imp_iff, decide_eq_true_eq, Bool.not_eq_true', Bool.not_eq_false', decide_eq_false_iff_not, Option.isSome, List.nil_append, List.cons_append, aGuardO_some, aGuard_tt, aGuard_tf, aGuard_ft, aGuard_ff, aGuard_tb, aGuard_fb, aGuard_ts, aGuard_fs, aPick_b, aPick_t, aPick_f, aAlloc_one, aAlloc_flat, aBox_some, aBuild_flat, aInt_add, aBin_add, aInt_sub, aBin_sub, aInt_mul, aBin_mul, aInt_quo, aBin_quo, aInt_rem, aBin_rem, aInt_and, aBin_and, aInt_or, aBin_or, aInt_xor, aBin_xor, aInt_andNot, aBin_andNot, aInt_eql, aBin_eql, aInt_neq, aBin_neq, aInt_lss, aBin_lss, aInt_leq, aBin_leq, aInt_gtr, aBin_gtr, aInt_geq, aBin_geq, aBin_shl, aBin_shr, aShift_shl, aShift_shr, aBin_be1, aBin_bn1, aBin_be2, aBin_bn2, aBin_be3, aBin_bn3, aBin_be4, aBin_bn4, aBin_be5, aBin_bn5, aBin_be6, aBin_bn6, aBin_be7, aBin_bn7, aBin_be8, aBin_bn8, aBin_be9, aBin_bn9, aUn_b, aUn_t, aUn_f, aUn_i, aNil_ptr, aNil_pv, aConv_int, aField_ptr, aField_pv, aIdx_sl, aIdx_prm, aIdx_row, aIdx_drow, aMake_i, aMake_s, aExtr_tup, aLen_ref, aLen_nil, aLen_sl, aLen_prm, aLen_str, aBuildL_some, aBuildS_some, aLoad_1b, aLoad_1d, aLoad_fb, aLoad_fd, aLoad_1p, aLoad_fp, aLoad_ep, aLoad_rr, aLoad_rd, aStore_1, aStore_f, aStore_r, aApp_some, aAppend_nil, aAppend_ref, aSlice_h, aSlice_l, aSlice_lh, aop_slice3, aSlice3_r, aop_field, aFld_agg, aBinW_f, aBinW_t, aWrap_mul, aWrap_add, isW_tmp, isW_mulc, isW_addc, isW_sub, isW_quo, isW_rem, isW_and, isW_or, isW_xor, isW_andNot, isW_shl, isW_shr, isW_eql, isW_neq, isW_lss, isW_leq, isW_gtr, isW_geq, Int.reduceLT, aBinW_dF, aBinW_dT, bc_draw, kregD_at, aopsD_nil, aopsD_plain, aopsD_guard, kontD_at, splW_t, splW_f, contD_at, yesD_at, noD_at, splD_bool, splD_undef, splD_skip, splD_int, splD_tt, splD_ff, splD_str, splD_nil, splD_sl, splD_prm, splD_ref, splD_ptr, splD_rp, splD_ep, splD_pv, splD_agg, splD_tup, splD_clo, gD_tt, gD_tf, gD_ft, gD_ff, gD_ts, gD_fs, slotO_some, addTr_nil, addTr_cons, memQ_nil, memQ_cons, clash_nil, clash_cons, regC_none, regC_nil, regC_cons, regR_nil, regR_cons, Int.toNat_zero, Int.toNat_one, rng0, rng1, rng2, rng3, rng4, SC.take, SC.drop, mp_nil, acond_ct, acond_cf, mp_one0, mp_one1, mp_one2, mp_one3, kcall_one, liveB_row, liveB_box, idx, cont, still, dies, lend, lendA, lendDies, snocs, SC.snoc, SC.app, meet, AV.cells, fillA, List.getD_cons_zero, List.getD_cons_succ, List.set_cons_zero, List.set_cons_succ, List.length_singleton, Nat.le_refl, Nat.lt_irrefl, Nat.reduceLT, Nat.reduceLeDiff, Option.map_some, Option.map_none, List.flatMap_nil, List.flatMap_cons, Nat.zero_add, BEq.rfl, kcall_two, mp_two0, mp_two1, mp_two2, mp_two3, mp_two4, aop_makeFunc, plainA, Bool.true_and, sl3, ty3, un3, sl78, ty78, un78, sl106, ty106, un106, sl104, ty104, un104, sl5, ty5, un5, sl2, ty2, un2, sl21, ty21, un21, sl4, ty4, un4, sl9, un9, sl24, ty24, un24, sl22, ty22, un22, sl42, ty42, un42, sl47, sl82, sl68, sl107, sl115, sl119, ty82, ty56, sl56, ty26, sl26, ty101, sl101, ty93, sl93, inR64, inRu64, inRu32, gm_laws_eqIntS, Int.toNat_natCast]
  refine ⟨fun hi => ⟨by omega, by omega, fun hne => ?_, fun he => ⟨by omega, ?_⟩⟩, fun hi => ?_⟩
  · congr 1; symm; simp; intro e; rw [e] at hne; exact hne rfl
  · refine klp_of (i + 1) rfl ⟨by omega, fun k hk => ?_⟩ (by omega)
    by_cases e : k = i
    · rw [e]; exact he
    · exact h2 k (by omega)
  · congr 1; symm; simp
    exact eq_of_get h fun k hk => h2 k (by omega)
def lend_laws_eqIntS : List Nat := []
def sp_laws_eqIntS : List AV → List Bx → (AV → List Bx → Prop) → Prop
  | [.sl none (.ints .i64 xs), .sl none (.ints .i64 ys)], [], K => K (.bool (decide (xs = ys))) []
  | _, _, _ => False
theorem at_laws_eqIntS {xs ys : List Int} {K : AV → List Bx → Prop} : sp_laws_eqIntS [.sl none (.ints .i64 xs), .sl none (.ints .i64 ys)] [] K = (K (.bool (decide (xs = ys))) []) := id rfl
theorem ok_laws_eqIntS : ∀ args giv K, sp_laws_eqIntS args giv K → ∃ r outs, ARuns Try.prog 121 args giv r outs ∧ K r outs := by
  intro args giv K hk
  unfold sp_laws_eqIntS at hk
  split at hk
  · exact ⟨_, _, runs_laws_eqIntS _ _ , hk⟩
  · exact hk.elim
theorem is_laws_eqIntSS : FnIs Try.prog 35 27 [.tmp 4] (Try.f35.body.getD .skip) := ⟨⟨Try.f35, by kernel_rfl, by kernel_rfl, by kernel_rfl, by kernel_rfl⟩, by kernel_rfl, by kernel_rfl⟩
def G_laws_eqIntSS : Gm := (Gm.none.add 121 lend_laws_eqIntS sp_laws_eqIntS)
theorem G_laws_eqIntSS_ok : G_laws_eqIntSS.ok Try.prog := (Gm.add_ok Gm.none_ok ok_laws_eqIntS)
theorem gm_laws_eqIntSS {r : List Oper} {n : Nat} : splB G_laws_eqIntSS r n = true := rfl
theorem gs_laws_eqIntSS_121 : G_laws_eqIntSS.sp 121 = sp_laws_eqIntS ∧ G_laws_eqIntSS.lend 121 = lend_laws_eqIntS := ⟨rfl, rfl⟩
set_option maxHeartbeats 1000000 in
set_option maxRecDepth 100000 in
theorem runs_laws_eqIntSS (fr gr : Option TypeId) (xs ys : LL) : ARuns Try.prog 35 [.sl none (.rows fr xs), .sl none (.rows gr ys)] [] (.bool (decide (xs = ys))) [] := by
  refine ARuns_bc G_laws_eqIntSS_ok is_laws_eqIntSS (by simp) fun hl hlB => ?_
  simp only [kcode_at, kreg_at, bc_skip, bc_seq, bc_cond, bc_block, bc_exit, bc_ret, bc_region, lkX_cons, acond_tmp, aCase_t, aCase_f, aCase_b, afin_nil, cvE_some, resL, resV, resC, cv, cvL, pack, entryE, inPrm, entryB, inPrms, bxCells, Option.getD_some, acall_clo, add_sp, add_lend, kcall_nil, selOf, selC, selA, inArgs, inA, inL, okA, okL, okBx, okC, outA, outL, outU, outB, deep, deepL, boxIds, AV.bid, List.map_nil, List.map_cons, List.all_nil, List.all_cons, BEq.rfl, Bool.and_true, Bool.true_and, List.append_nil, aops_nil, aops_plain, aops_guard, kont_at, yes_at, no_at, aop_move, aop_assign, aop_pick, aop_alloc, aop_box, aop_build, aop_buildSlice, aop_load, aop_store, aop_nilCheck, aop_binOp, aop_unOp, aop_convert, aop_fieldAddr, aop_indexAddr, aop_slice, aop_extract, aop_makeSlice, aop_len, aop_max, aMax_int, slTy2, SC0, aop_append, aop_call, evalE, getE, putE, getB, setB, St.put, setsB, nth, AV.ofV, AV.blk, AV.bid, AV.one, SC.len, SC.get, List.length_nil, List.length_cons, Nat.reduceEqDiff, Nat.reduceAdd, ↓reduceIte, true_and, and_true, Bool.true_eq_false, Bool.false_eq_true, false_imp_iff, true_imp_iff, decide_eq_true_eq, Bool.not_eq_true', Bool.not_eq_false', decide_eq_false_iff_not, Option.isSome, List.nil_append, List.cons_append, aGuardO_some, aGuard_tt, aGuard_tf, aGuard_ft, aGuard_ff, aGuard_tb, aGuard_fb, aGuard_ts, aGuard_fs, aPick_b, aPick_t, aPick_f, aAlloc_one, aAlloc_flat, aBox_some, aBuild_flat, aInt_add, aBin_add, aInt_sub, aBin_sub, aInt_mul, aBin_mul, aInt_quo, aBin_quo, aInt_rem, aBin_rem, aInt_and, aBin_and, aInt_or, aBin_or, aInt_xor, aBin_xor, aInt_andNot, aBin_andNot, aInt_eql, aBin_eql, aInt_neq, aBin_neq, aInt_lss, aBin_lss, aInt_leq, aBin_leq, aInt_gtr, aBin_gtr, aInt_geq, aBin_geq, aBin_shl, aBin_shr, aShift_shl, aShift_shr, aBin_be1, aBin_bn1, aBin_be2, aBin_bn2, aBin_be3, aBin_bn3, aBin_be4, aBin_bn4, aBin_be5, aBin_bn5, aBin_be6, aBin_bn6, aBin_be7, aBin_bn7, aBin_be8, aBin_bn8, aBin_be9, aBin_bn9, aUn_b, aUn_t, aUn_f, aUn_i, aNil_ptr, aNil_pv, aConv_int, aField_ptr, aField_pv, aIdx_sl, aIdx_prm, aIdx_row, aIdx_drow, aMake_i, aMake_s, aExtr_tup, aLen_ref, aLen_nil, aLen_sl, aLen_prm, aLen_str, aBuildL_some, aBuildS_some, aLoad_1b, aLoad_1d, aLoad_fb, aLoad_fd, aLoad_1p, aLoad_fp, aLoad_ep, aLoad_rr, aLoad_rd, aStore_1, aStore_f, aStore_r, aApp_some, aAppend_nil, aAppend_ref, aSlice_h, aSlice_l, aSlice_lh, aop_slice3, aSlice3_r, aop_field, aFld_agg, aBinW_f, aBinW_t, aWrap_mul, aWrap_add, isW_tmp, isW_mulc, isW_addc, isW_sub, isW_quo, isW_rem, isW_and, isW_or, isW_xor, isW_andNot, isW_shl, isW_shr, isW_eql, isW_neq, isW_lss, isW_leq, isW_gtr, isW_geq, Int.reduceLT, aBinW_dF, aBinW_dT, bc_draw, kregD_at, aopsD_nil, aopsD_plain, aopsD_guard, kontD_at, splW_t, splW_f, contD_at, yesD_at, noD_at, splD_bool, splD_undef, splD_skip, splD_int, splD_tt, splD_ff, splD_str, splD_nil, splD_sl, splD_prm, splD_ref, splD_ptr, splD_rp, splD_ep, splD_pv, splD_agg, splD_tup, splD_clo, gD_tt, gD_tf, gD_ft, gD_ff, gD_ts, gD_fs, slotO_some, addTr_nil, addTr_cons, memQ_nil, memQ_cons, clash_nil, clash_cons, regC_none, regC_nil, regC_cons, regR_nil, regR_cons, Int.toNat_zero, Int.toNat_one, rng0, rng1, rng2, rng3, rng4, SC.take, SC.drop, mp_nil, acond_ct, acond_cf, mp_one0, mp_one1, mp_one2, mp_one3, kcall_one, liveB_row, liveB_box, idx, cont, still, dies, lend, lendA, lendDies, snocs, SC.snoc, SC.app, meet, AV.cells, fillA, List.getD_cons_zero, List.getD_cons_succ, List.set_cons_zero, List.set_cons_succ, List.length_singleton, Nat.le_refl, Nat.lt_irrefl, Nat.reduceLT, Nat.reduceLeDiff, Option.map_some, Option.map_none, List.flatMap_nil, List.flatMap_cons, Nat.zero_add, BEq.rfl, kcall_two, mp_two0, mp_two1, mp_two2, mp_two3, mp_two4, aop_makeFunc, plainA, Bool.true_and, sl3, ty3, un3, sl78, ty78, un78, sl106, ty106, un106, sl104, ty104, un104, sl5, ty5, un5, sl2, ty2, un2, sl21, ty21, un21, sl4, ty4, un4, sl9, un9, sl24, ty24, un24, sl22, ty22, un22, sl42, ty42, un42, sl47, sl82, sl68, sl107, sl115, sl119, ty82, ty56, sl56, ty26, sl26, ty101, sl101, ty93, sl93, inR64, inRu64, inRu32, gm_laws_eqIntSS, gs_laws_eqIntSS_121, at_laws_eqIntS, lend_laws_eqIntS, Try.f35]
  simp only [lensA, lenA, lenSC] at hl
  refine ⟨fun h => ?_, fun h => ?_⟩
  · congr 1; symm; simp; intro e; rw [e] at h; exact h rfl
  replace h : xs.length = ys.length := by omega
  refine bc_loop (fun i : Nat => i ≤ xs.length ∧ ∀ k, k < i → xs.getD k [] = ys.getD k [])
    (fun i => ⟨[(0, .prm 0 (.rows fr xs)), (1, .prm 1 (.rows gr ys)), (5, .int .i64 i)], []⟩) (fun i => xs.length - i)
    [0, 1, 5] [] 0 rfl rfl (by simp) fun i ⟨h1, h2⟩ => ?_
  simp only [kcode_at, kreg_at, bc_skip, bc_seq, bc_cond, bc_block, bc_exit, bc_ret, bc_region, lkX_cons, acond_tmp, aCase_t, aCase_f, aCase_b, afin_nil, cvE_some, resL, resV, resC, cv, cvL, pack, entryE, inPrm, entryB, inPrms, bxCells, Option.getD_some, acall_clo, add_sp, add_lend, kcall_nil, selOf, selC, selA, inArgs, inA, inL, okA, okL, okBx, okC, outA, outL, outU, outB, deep, deepL, boxIds, AV.bid, List.map_nil, List.map_cons, List.all_nil, List.all_cons, BEq.rfl, Bool.and_true, Bool.true_and, List.append_nil, aops_nil, aops_plain, aops_guard, kont_at, yes_at, no_at, aop_move, aop_assign, aop_pick, aop_alloc, aop_box, aop_build, aop_buildSlice, aop_load, aop_store, aop_nilCheck, aop_binOp, aop_unOp, aop_convert, aop_fieldAddr, aop_indexAddr, aop_slice, aop_extract, aop_makeSlice, aop_len, aop_max, aMax_int, slTy2, SC0, aop_append, aop_call, evalE, getE, putE, getB, setB, St.put, setsB, nth, AV.ofV, AV.blk, AV.bid, AV.one, SC.len, SC.get, List.length_nil, List.length_cons, Nat.reduceEqDiff, Nat.reduceAdd, ↓reduceIte, true_and, and_true, Bool.true_eq_false, Bool.false_eq_true, false_imp_iff, true_imp_iff, decide_eq_true_eq, Bool.not_eq_true', Bool.not_eq_false', decide_eq_false_iff_not, Option.isSome, List.nil_append, List.cons_append, aGuardO_some, aGuard_tt, aGuard_tf, aGuard_ft, aGuard_ff, aGuard_tb, aGuard_fb, aGuard_ts, aGuard_fs, aPick_b, aPick_t, aPick_f, aAlloc_one, aAlloc_flat, aBox_some, aBuild_flat, aInt_add, aBin_add, aInt_sub, aBin_sub, aInt_mul, aBin_mul, aInt_quo, aBin_quo, aInt_rem, aBin_rem, aInt_and, aBin_and, aInt_or, aBin_or, aInt_xor, aBin_xor, aInt_andNot, aBin_andNot, aInt_eql, aBin_eql, aInt_neq, aBin_neq, aInt_lss, aBin_lss, aInt_leq, aBin_leq, aInt_gtr, aBin_gtr, aInt_geq, aBin_geq, aBin_shl, aBin_shr, aShift_shl, aShift_shr, aBin_be1, aBin_bn1, aBin_be2, aBin_bn2, aBin_be3, aBin_bn3, aBin_be4, aBin_bn4, aBin_be5, aBin_bn5, aBin_be6, aBin_bn6, aBin_be7, aBin_bn7, aBin_be8, aBin_bn8, aBin_be9, aBin_bn9, aUn_b, aUn_t, aUn_f, aUn_i, aNil_ptr, aNil_pv, aConv_int, aField_ptr, aField_pv, aIdx_sl, aIdx_prm, aIdx_row, aIdx_drow, aMake_i, aMake_s, aExtr_tup, aLen_ref, aLen_nil, aLen_sl, aLen_prm, aLen_str, aBuildL_some, aBuildS_some, aLoad_1b, aLoad_1d, aLoad_fb, aLoad_fd, aLoad_1p, aLoad_fp, aLoad_ep, aLoad_rr, aLoad_rd, aStore_1, aStore_f, aStore_r, aApp_some, aAppend_nil, aAppend_ref, aSlice_h, aSlice_l, aSlice_lh, aop_slice3, aSlice3_r, aop_field, aFld_agg, aBinW_f, aBinW_t, aWrap_mul, aWrap_add, isW_tmp, isW_mulc, isW_addc, isW_sub, isW_quo, isW_rem, isW_and, isW_or, isW_xor, isW_andNot, isW_shl, isW_shr, isW_eql, isW_neq, isW_lss, isW_leq, isW_gtr, isW_geq, Int.reduceLT, aBinW_dF, aBinW_dT, bc_draw, kregD_at, aopsD_nil, aopsD_plain, aopsD_guard, kontD_at, splW_t, splW_f, contD_at, yesD_at, noD_at, splD_bool, splD_undef, splD_skip, splD_int, splD_tt, splD_ff, splD_str, splD_nil, splD_sl, splD_prm, splD_ref, splD_ptr, splD_rp, splD_ep, splD_pv, splD_agg, splD_tup, splD_clo, gD_tt, gD_tf, gD_ft, gD_ff, gD_ts, gD_fs, slotO_some, addTr_nil, addTr_cons, memQ_nil, memQ_cons, clash_nil, clash_cons, regC_none, regC_nil, regC_cons, regR_nil, regR_cons, Int.toNat_zero, Int.toNat_one, rng0, rng1, rng2, rng3, rng4, SC.take, SC.drop, mp_nil, acond_ct, acond_cf, mp_one0, mp_one1, mp_one2, mp_one3, kcall_one, liveB_row, liveB_box, idx, cont, still, dies, lend, lendA, lendDies, snocs, SC.snoc, SC.app, meet, AV.cells, fillA, List.getD_cons_zero, List.getD_cons_succ, List.set_cons_zero, List.set_cons_succ, List.length_singleton, Nat.le_refl, Nat.lt_irrefl, Nat.reduceLT, Nat.reduceLeDiff, Option.map_some, Option.map_none, List.flatMap_nil, List.flatMap_cons, Nat.zero_add, BEq.rfl, kcall_two, mp_two0, mp_two1, mp_two2, mp_two3, mp_two4, aop_makeFunc, plainA, Bool.true_and, sl3, ty3, un3, sl78, ty78, un78, sl106, ty106, un106, sl104, ty104, un104, sl5, ty5, un5, sl2, ty2, un2, sl21, ty21, un21, sl4, ty4, un4, sl9, un9, sl24, ty24, un24, sl22, ty22, un22, sl42, ty42, un42, sl47, sl82, sl68, sl107, sl115, sl119, ty82, ty56, sl56, ty26, sl26, ty101, sl101, ty93, sl93, inR64, inRu64, inRu32, gm_laws_eqIntSS, gs_laws_eqIntSS_121, at_laws_eqIntS, lend_laws_eqIntS, Int.toNat_natCast]
  refine ⟨fun hi => ⟨by omega, by omega, fun he => ⟨by omega, ?_⟩, fun hne => ?_⟩, fun hi => ?_⟩
  · refine klp_of (i + 1) rfl ⟨by omega, fun k hk => ?_⟩ (by omega)
    by_cases e : k = i
    · rw [e]; exact he
    · exact h2 k (by omega)
  · congr 1; symm; simp; intro e; rw [e] at hne; exact hne rfl
  · congr 1; symm; simp
    exact rows_of_get h fun k hk => h2 k (by omega)
def lend_laws_eqIntSS : List Nat := []
def sp_laws_eqIntSS : List AV → List Bx → (AV → List Bx → Prop) → Prop
  | [.sl none (.rows fr xs), .sl none (.rows gr ys)], [], K => K (.bool (decide (xs = ys))) []
  | _, _, _ => False
theorem at_laws_eqIntSS {fr gr : Option TypeId} {xs ys : LL} {K : AV → List Bx → Prop} : sp_laws_eqIntSS [.sl none (.rows fr xs), .sl none (.rows gr ys)] [] K = (K (.bool (decide (xs = ys))) []) := id rfl
theorem ok_laws_eqIntSS : ∀ args giv K, sp_laws_eqIntSS args giv K → ∃ r outs, ARuns Try.prog 35 args giv r outs ∧ K r outs := by
  intro args giv K hk
  unfold sp_laws_eqIntSS at hk
  split at hk
  · exact ⟨_, _, runs_laws_eqIntSS _ _ _ _ , hk⟩
  · exact hk.elim
theorem is_laws_markIntS : FnIs Try.prog 122 19 [.tmp 4] (Try.f122.body.getD .skip) := ⟨⟨Try.f122, by kernel_rfl, by kernel_rfl, by kernel_rfl, by kernel_rfl⟩, by kernel_rfl, by kernel_rfl⟩
def G_laws_markIntS : Gm := Gm.none
theorem G_laws_markIntS_ok : G_laws_markIntS.ok Try.prog := Gm.none_ok
theorem gm_laws_markIntS {r : List Oper} {n : Nat} : splB G_laws_markIntS r n = true := rfl
set_option maxHeartbeats 1000000 in
set_option maxRecDepth 100000 in
theorem runs_laws_markIntS (k : Int) (e : TypeId) (n : Nat) (xs : List Int) (hp1 : n = xs.length) (hp2 : 0 ≤ k ∧ k + xs.length ≤ 9223372036854775807) : ARuns Try.prog 122 [.ref 0 n, .int .i64 k] [.row e (.ints .i64 xs)] (.int .i64 (k + xs.length)) [.row e (.ints .i64 (iotaI k xs.length))] := by
  refine ARuns_bc G_laws_markIntS_ok is_laws_markIntS (by simp) fun hl hlB => ?_
  simp only [kcode_at, kreg_at, bc_skip, bc_seq, bc_cond, bc_block, bc_exit, bc_ret, bc_region, lkX_cons, acond_tmp, aCase_t, aCase_f, aCase_b, afin_nil, cvE_some, resL, resV, resC, cv, cvL, pack, entryE, inPrm, entryB, inPrms, bxCells, Option.getD_some, acall_clo, add_sp, add_lend, kcall_nil, selOf, selC, selA, inArgs, inA, inL, okA, okL, okBx, okC, outA, outL, outU, outB, deep, deepL, boxIds, AV.bid, List.map_nil, List.map_cons, List.all_nil, List.all_cons, BEq.rfl, Bool.and_true, Bool.true_and, List.append_nil, aops_nil, aops_plain, aops_guard, kont_at, yes_at, no_at, aop_move, aop_assign, aop_pick, aop_alloc, aop_box, aop_build, aop_buildSlice, aop_load, aop_store, aop_nilCheck, aop_binOp, aop_unOp, aop_convert, aop_fieldAddr, aop_indexAddr, aop_slice, aop_extract, aop_makeSlice, aop_len, aop_max, aMax_int, slTy2, SC0, aop_append, aop_call, evalE, getE, putE, getB, setB, St.put, setsB, nth, AV.ofV, AV.blk, AV.bid, AV.one, SC.len, SC.get, List.length_nil, List.length_cons, Nat.reduceEqDiff, Nat.reduceAdd, ↓reduceIte, true_and, and_true, Bool.true_eq_false, Bool.false_eq_true, false_imp_iff, true_imp_iff, decide_eq_true_eq, Bool.not_eq_true', Bool.not_eq_false', decide_eq_false_iff_not, Option.isSome, List.nil_append, List.cons_append, aGuardO_some, aGuard_tt, aGuard_tf, aGuard_ft, aGuard_ff, aGuard_tb, aGuard_fb, aGuard_ts, aGuard_fs, aPick_b, aPick_t, aPick_f, aAlloc_one, aAlloc_flat, aBox_some, aBuild_flat, aInt_add, aBin_add, aInt_sub, aBin_sub, aInt_mul, aBin_mul, aInt_quo, aBin_quo, aInt_rem, aBin_rem, aInt_and, aBin_and, aInt_or, aBin_or, aInt_xor, aBin_xor, aInt_andNot, aBin_andNot, aInt_eql, aBin_eql, aInt_neq, aBin_neq, aInt_lss, aBin_lss, aInt_leq, aBin_leq, aInt_gtr, aBin_gtr, aInt_geq, aBin_geq, aBin_shl, aBin_shr, aShift_shl, aShift_shr, aBin_be1, aBin_bn1, aBin_be2, aBin_bn2, aBin_be3, aBin_bn3, aBin_be4, aBin_bn4, aBin_be5, aBin_bn5, aBin_be6, aBin_bn6, aBin_be7, aBin_bn7, aBin_be8, aBin_bn8, aBin_be9, aBin_bn9, aUn_b, aUn_t, aUn_f, aUn_i, aNil_ptr, aNil_pv, aConv_int, aField_ptr, aField_pv, aIdx_sl, aIdx_prm, aIdx_row, aIdx_drow, aMake_i, aMake_s, aExtr_tup, aLen_ref, aLen_nil, aLen_sl, aLen_prm, aLen_str, aBuildL_some, aBuildS_some, aLoad_1b, aLoad_1d, aLoad_fb, aLoad_fd, aLoad_1p, aLoad_fp, aLoad_ep, aLoad_rr, aLoad_rd, aStore_1, aStore_f, aStore_r, aApp_some, aAppend_nil, aAppend_ref, aSlice_h, aSlice_l, aSlice_lh, aop_slice3, aSlice3_r, aop_field, aFld_agg, aBinW_f, aBinW_t, aWrap_mul, aWrap_add, isW_tmp, isW_mulc, isW_addc, isW_sub, isW_quo, isW_rem, isW_and, isW_or, isW_xor, isW_andNot, isW_shl, isW_shr, isW_eql, isW_neq, isW_lss, isW_leq, isW_gtr, isW_geq, Int.reduceLT, aBinW_dF, aBinW_dT, bc_draw, kregD_at, aopsD_nil, aopsD_plain, aopsD_guard, kontD_at, splW_t, splW_f, contD_at, yesD_at, noD_at, splD_bool, splD_undef, splD_skip, splD_int, splD_tt, splD_ff, splD_str, splD_nil, splD_sl, splD_prm, splD_ref, splD_ptr, splD_rp, splD_ep, splD_pv, splD_agg, splD_tup, splD_clo, gD_tt, gD_tf, gD_ft, gD_ff, gD_ts, gD_fs, slotO_some, addTr_nil, addTr_cons, memQ_nil, memQ_cons, clash_nil, clash_cons, regC_none, regC_nil, regC_cons, regR_nil, regR_cons, Int.toNat_zero, Int.toNat_one, rng0, rng1, rng2, rng3, rng4, SC.take, SC.drop, mp_nil, acond_ct, acond_cf, mp_one0, mp_one1, mp_one2, mp_one3, kcall_one, liveB_row, liveB_box, idx, cont, still, dies, lend, lendA, lendDies, snocs, SC.snoc, SC.app, meet, AV.cells, fillA, List.getD_cons_zero, List.getD_cons_succ, List.set_cons_zero, List.set_cons_succ, List.length_singleton, Nat.le_refl, Nat.lt_irrefl, Nat.reduceLT, Nat.reduceLeDiff, Option.map_some, Option.map_none, List.flatMap_nil, List.flatMap_cons, Nat.zero_add, BEq.rfl, kcall_two, mp_two0, mp_two1, mp_two2, mp_two3, mp_two4, aop_makeFunc, plainA, Bool.true_and, sl3, ty3, un3, sl78, ty78, un78, sl106, ty106, un106, sl104, ty104, un104, sl5, ty5, un5, sl2, ty2, un2, sl21, ty21, un21, sl4, ty4, un4, sl9, un9, sl24, ty24, un24, sl22, ty22, un22, sl42, ty42, un42, sl47, sl82, sl68, sl107, sl115, sl119, ty82, ty56, sl56, ty26, sl26, ty101, sl101, ty93, sl93, inR64, inRu64, inRu32, gm_laws_markIntS, Try.f122]
  subst hp1
  refine bc_loop (fun i : Nat => i ≤ xs.length)
    (fun i => ⟨[(0, .ref 0 xs.length), (1, .int .i64 (k + i)), (5, .int .i64 i)], [.row e (.ints .i64 (iotaI k i ++ xs.drop i))]⟩) (fun i => xs.length - i)
    [0, 1, 5] [0] 0 rfl (by simp [St.conv, St.bf, getE, putE, getB, cv, cvL, cvB, idx, still, pack, lifts, liftOne, liftC, liftK, killB, cellsOfB, setB]; simp [iotaI]) (by simp) fun i h1 => ?_
  simp only [kcode_at, kreg_at, bc_skip, bc_seq, bc_cond, bc_block, bc_exit, bc_ret, bc_region, lkX_cons, acond_tmp, aCase_t, aCase_f, aCase_b, afin_nil, cvE_some, resL, resV, resC, cv, cvL, pack, entryE, inPrm, entryB, inPrms, bxCells, Option.getD_some, acall_clo, add_sp, add_lend, kcall_nil, selOf, selC, selA, inArgs, inA, inL, okA, okL, okBx, okC, outA, outL, outU, outB, deep, deepL, boxIds, AV.bid, List.map_nil, List.map_cons, List.all_nil, List.all_cons, BEq.rfl, Bool.and_true, Bool.true_and, List.append_nil, aops_nil, aops_plain, aops_guard, kont_at, yes_at, no_at, aop_move, aop_assign, aop_pick, aop_alloc, aop_box, aop_build, aop_buildSlice, aop_load, aop_store, aop_nilCheck, aop_binOp, aop_unOp, aop_convert, aop_fieldAddr, aop_indexAddr, aop_slice, aop_extract, aop_makeSlice, aop_len, aop_max, aMax_int, slTy2, SC0, aop_append, aop_call, evalE, getE, putE, getB, setB, St.put, setsB, nth, AV.ofV, AV.blk, AV.bid, AV.one, SC.len, SC.get, List.length_nil, List.length_cons, Nat.reduceEqDiff, Nat.reduceAdd, ↓reduceIte, true_and, and_true, Bool.true_eq_false, Bool.false_eq_true, false_imp_iff, true_imp_iff, decide_eq_true_eq, Bool.not_eq_true', Bool.not_eq_false', decide_eq_false_iff_not, Option.isSome, List.nil_append, List.cons_append, aGuardO_some, aGuard_tt, aGuard_tf, aGuard_ft, aGuard_ff, aGuard_tb, aGuard_fb, aGuard_ts, aGuard_fs, aPick_b, aPick_t, aPick_f, aAlloc_one, aAlloc_flat, aBox_some, aBuild_flat, aInt_add, aBin_add, aInt_sub, aBin_sub, aInt_mul, aBin_mul, aInt_quo, aBin_quo, aInt_rem, aBin_rem, aInt_and, aBin_and, aInt_or, aBin_or, aInt_xor, aBin_xor, aInt_andNot, aBin_andNot, aInt_eql, aBin_eql, aInt_neq, aBin_neq, aInt_lss, aBin_lss, aInt_leq, aBin_leq, aInt_gtr, aBin_gtr, aInt_geq, aBin_geq, aBin_shl, aBin_shr, aShift_shl, aShift_shr, aBin_be1, aBin_bn1, aBin_be2, aBin_bn2, aBin_be3, aBin_bn3, aBin_be4, aBin_bn4, aBin_be5, aBin_bn5, aBin_be6, aBin_bn6, aBin_be7, aBin_bn7, aBin_be8, aBin_bn8, aBin_be9, aBin_bn9, aUn_b, aUn_t, aUn_f, aUn_i, aNil_ptr, aNil_pv, aConv_int, aField_ptr, aField_pv, aIdx_sl, aIdx_prm, aIdx_row, aIdx_drow, aMake_i, aMake_s, aExtr_tup, aLen_ref, aLen_nil, aLen_sl, aLen_prm, aLen_str, aBuildL_some, aBuildS_some, aLoad_1b, aLoad_1d, aLoad_fb, aLoad_fd, aLoad_1p, aLoad_fp, aLoad_ep, aLoad_rr, aLoad_rd, aStore_1, aStore_f, aStore_r, aApp_some, aAppend_nil, aAppend_ref, aSlice_h, aSlice_l, aSlice_lh, aop_slice3, aSlice3_r, aop_field, aFld_agg, aBinW_f, aBinW_t, aWrap_mul, aWrap_add, isW_tmp, isW_mulc, isW_addc, isW_sub, isW_quo, isW_rem, isW_and, isW_or, isW_xor, isW_andNot, isW_shl, isW_shr, isW_eql, isW_neq, isW_lss, isW_leq, isW_gtr, isW_geq, Int.reduceLT, aBinW_dF, aBinW_dT, bc_draw, kregD_at, aopsD_nil, aopsD_plain, aopsD_guard, kontD_at, splW_t, splW_f, contD_at, yesD_at, noD_at, splD_bool, splD_undef, splD_skip, splD_int, splD_tt, splD_ff, splD_str, splD_nil, splD_sl, splD_prm, splD_ref, splD_ptr, splD_rp, splD_ep, splD_pv, splD_agg, splD_tup, splD_clo, gD_tt, gD_tf, gD_ft, gD_ff, gD_ts, gD_fs, slotO_some, addTr_nil, addTr_cons, memQ_nil, memQ_cons, clash_nil, clash_cons, regC_none, regC_nil, regC_cons, regR_nil, regR_cons, Int.toNat_zero, Int.toNat_one, rng0, rng1, rng2, rng3, rng4, SC.take, SC.drop, mp_nil, acond_ct, acond_cf, mp_one0, mp_one1, mp_one2, mp_one3, kcall_one, liveB_row, liveB_box, idx, cont, still, dies, lend, lendA, lendDies, snocs, SC.snoc, SC.app, meet, AV.cells, fillA, List.getD_cons_zero, List.getD_cons_succ, List.set_cons_zero, List.set_cons_succ, List.length_singleton, Nat.le_refl, Nat.lt_irrefl, Nat.reduceLT, Nat.reduceLeDiff, Option.map_some, Option.map_none, List.flatMap_nil, List.flatMap_cons, Nat.zero_add, BEq.rfl, kcall_two, mp_two0, mp_two1, mp_two2, mp_two3, mp_two4, aop_makeFunc, plainA, Bool.true_and, sl3, ty3, un3, sl78, ty78, un78, sl106, ty106, un106, sl104, ty104, un104, sl5, ty5, un5, sl2, ty2, un2, sl21, ty21, un21, sl4, ty4, un4, sl9, un9, sl24, ty24, un24, sl22, ty22, un22, sl42, ty42, un42, sl47, sl82, sl68, sl107, sl115, sl119, ty82, ty56, sl56, ty26, sl26, ty101, sl101, ty93, sl93, inR64, inRu64, inRu32, gm_laws_markIntS, Int.toNat_natCast]
  have el : (iotaI k i ++ xs.drop i).length = xs.length := by simp [iotaI_len]; omega
  refine ⟨fun hi => ⟨⟨el, by omega, by omega⟩, ⟨el, by omega⟩, by omega, by omega, ?_⟩, fun hi => ?_⟩
  · refine klp_of (i + 1) ?_ (by omega) (by omega)
    have := mark_step (k := k) (xs := xs) (i := i) (by omega)
    rw [this]
    simp [St.conv, St.bf, getE, putE, getB, cv, cvL, cvB, idx, still, pack, lifts, liftOne, liftC, liftK, killB, cellsOfB, setB]
    omega
  · have : i = xs.length := by omega
    subst this
    refine afin_of [0] rfl rfl (by simp [St.conv, St.bf, getE, putE, getB, cv, cvL, cvB, idx, still, pack, lifts, liftOne, liftC, liftK, killB, cellsOfB, setB]) (by simp [St.conv, St.bf, getE, putE, getB, cv, cvL, cvB, idx, still, pack, lifts, liftOne, liftC, liftK, killB, cellsOfB, setB])
def lend_laws_markIntS : List Nat := [0]
def sp_laws_markIntS : List AV → List Bx → (AV → List Bx → Prop) → Prop
  | [.ref 0 n, .int .i64 k], [.row e (.ints .i64 xs)], K => (n = xs.length) ∧ (0 ≤ k ∧ k + xs.length ≤ 9223372036854775807) ∧ K (.int .i64 (k + xs.length)) [.row e (.ints .i64 (iotaI k xs.length))]
  | _, _, _ => False
theorem at_laws_markIntS {k : Int} {e : TypeId} {n : Nat} {xs : List Int} {K : AV → List Bx → Prop} : sp_laws_markIntS [.ref 0 n, .int .i64 k] [.row e (.ints .i64 xs)] K = ((n = xs.length) ∧ (0 ≤ k ∧ k + xs.length ≤ 9223372036854775807) ∧ K (.int .i64 (k + xs.length)) [.row e (.ints .i64 (iotaI k xs.length))]) := id rfl
theorem ok_laws_markIntS : ∀ args giv K, sp_laws_markIntS args giv K → ∃ r outs, ARuns Try.prog 122 args giv r outs ∧ K r outs := by
  intro args giv K hk
  unfold sp_laws_markIntS at hk
  split at hk
  · obtain ⟨hp1, hp2, hk⟩ := hk; exact ⟨_, _, runs_laws_markIntS _ _ _ _ hp1 hp2, hk⟩
  · exact hk.elim
theorem is_laws_markIntSS : FnIs Try.prog 36 19 [.tmp 4] (Try.f36.body.getD .skip) := ⟨⟨Try.f36, by kernel_rfl, by kernel_rfl, by kernel_rfl, by kernel_rfl⟩, by kernel_rfl, by kernel_rfl⟩
def G_laws_markIntSS : Gm := (Gm.none.add 122 lend_laws_markIntS sp_laws_markIntS)
theorem G_laws_markIntSS_ok : G_laws_markIntSS.ok Try.prog := (Gm.add_ok Gm.none_ok ok_laws_markIntS)
theorem gm_laws_markIntSS {r : List Oper} {n : Nat} : splB G_laws_markIntSS r n = true := rfl
theorem gs_laws_markIntSS_122 : G_laws_markIntSS.sp 122 = sp_laws_markIntS ∧ G_laws_markIntSS.lend 122 = lend_laws_markIntS := ⟨rfl, rfl⟩
set_option maxHeartbeats 4000000 in
set_option maxRecDepth 100000 in
theorem runs_laws_markIntSS (k : Int) (e t : TypeId) (n : Nat) (xs : LL) (hp1 : n = xs.length) (hp2 : 0 ≤ k ∧ k + gTot xs ≤ 9223372036854775807) : ARuns Try.prog 36 [.ref 0 n, .int .i64 k] [.grid e t xs] (.int .i64 (k + gTot xs)) [.grid e t (gMk k xs)] := by
  subst hp1
  obtain ⟨fn, h1, h2, h3, h4⟩ := is_laws_markIntSS.ok
  refine ARuns_of h1 is_laws_markIntSS.callable h2 h3 (by simp) rfl h4 fun l1 l2 C hN hm a w hs => ?_
  obtain ⟨hfo, _⟩ := Bool.and_eq_true_iff.1 is_laws_markIntSS.code
  have hm1 : C.m = 1 := hm
  simp only [Try.f36, Option.getD_some]
  have hl : xs.length ≤ 9223372036854775807 := l2.1
  -- the beginning
  refine wp_seq ?_
  refine wp_bc G_laws_markIntSS_ok hfo (by rw [hN]; rfl) hm1 (fun _ => False) [] (fun s => getE s.env 0 = .ref 0 xs.length ∧ getE s.env 1 = .int .i64 k ∧ s.bx = [.grid e t xs]) (by simp only [kcode_at, kreg_at, bc_skip, bc_seq, bc_cond, bc_block, bc_exit, bc_ret, bc_region, lkX_cons, acond_tmp, aCase_t, aCase_f, aCase_b, afin_nil, cvE_some, resL, resV, resC, cv, cvL, pack, entryE, inPrm, entryB, inPrms, bxCells, Option.getD_some, acall_clo, add_sp, add_lend, kcall_nil, selOf, selC, selA, inArgs, inA, inL, okA, okL, okBx, okC, outA, outL, outU, outB, deep, deepL, boxIds, AV.bid, List.map_nil, List.map_cons, List.all_nil, List.all_cons, BEq.rfl, Bool.and_true, Bool.true_and, List.append_nil, aops_nil, aops_plain, aops_guard, kont_at, yes_at, no_at, aop_move, aop_assign, aop_pick, aop_alloc, aop_box, aop_build, aop_buildSlice, aop_load, aop_store, aop_nilCheck, aop_binOp, aop_unOp, aop_convert, aop_fieldAddr, aop_indexAddr, aop_slice, aop_extract, aop_makeSlice, aop_len, aop_max, aMax_int, slTy2, SC0, aop_append, aop_call, evalE, getE, putE, getB, setB, St.put, setsB, nth, AV.ofV, AV.blk, AV.bid, AV.one, SC.len, SC.get, List.length_nil, List.length_cons, Nat.reduceEqDiff, Nat.reduceAdd, ↓reduceIte, true_and, and_true, Bool.true_eq_false, Bool.false_eq_true, false_imp_iff, true_imp_iff, decide_eq_true_eq, Bool.not_eq_true', Bool.not_eq_false', decide_eq_false_iff_not, Option.isSome, List.nil_append, List.cons_append, aGuardO_some, aGuard_tt, aGuard_tf, aGuard_ft, aGuard_ff, aGuard_tb, aGuard_fb, aGuard_ts, aGuard_fs, aPick_b, aPick_t, aPick_f, aAlloc_one, aAlloc_flat, aBox_some, aBuild_flat, aInt_add, aBin_add, aInt_sub, aBin_sub, aInt_mul, aBin_mul, aInt_quo, aBin_quo, aInt_rem, aBin_rem, aInt_and, aBin_and, aInt_or, aBin_or, aInt_xor, aBin_xor, aInt_andNot, aBin_andNot, aInt_eql, aBin_eql, aInt_neq, aBin_neq, aInt_lss, aBin_lss, aInt_leq, aBin_leq, aInt_gtr, aBin_gtr, aInt_geq, aBin_geq, aBin_shl, aBin_shr, aShift_shl, aShift_shr, aBin_be1, aBin_bn1, aBin_be2, aBin_bn2, aBin_be3, aBin_bn3, aBin_be4, aBin_bn4, aBin_be5, aBin_bn5, aBin_be6, aBin_bn6, aBin_be7, aBin_bn7, aBin_be8, aBin_bn8, aBin_be9, aBin_bn9, aUn_b, aUn_t, aUn_f, aUn_i, aNil_ptr, aNil_pv, aConv_int, aField_ptr, aField_pv, aIdx_sl, aIdx_prm, aIdx_row, aIdx_drow, aMake_i, aMake_s, aExtr_tup, aLen_ref, aLen_nil, aLen_sl, aLen_prm, aLen_str, aBuildL_some, aBuildS_some, aLoad_1b, aLoad_1d, aLoad_fb, aLoad_fd, aLoad_1p, aLoad_fp, aLoad_ep, aLoad_rr, aLoad_rd, aStore_1, aStore_f, aStore_r, aApp_some, aAppend_nil, aAppend_ref, aSlice_h, aSlice_l, aSlice_lh, aop_slice3, aSlice3_r, aop_field, aFld_agg, aBinW_f, aBinW_t, aWrap_mul, aWrap_add, isW_tmp, isW_mulc, isW_addc, isW_sub, isW_quo, isW_rem, isW_and, isW_or, isW_xor, isW_andNot, isW_shl, isW_shr, isW_eql, isW_neq, isW_lss, isW_leq, isW_gtr, isW_geq, Int.reduceLT, aBinW_dF, aBinW_dT, bc_draw, kregD_at, aopsD_nil, aopsD_plain, aopsD_guard, kontD_at, splW_t, splW_f, contD_at, yesD_at, noD_at, splD_bool, splD_undef, splD_skip, splD_int, splD_tt, splD_ff, splD_str, splD_nil, splD_sl, splD_prm, splD_ref, splD_ptr, splD_rp, splD_ep, splD_pv, splD_agg, splD_tup, splD_clo, gD_tt, gD_tf, gD_ft, gD_ff, gD_ts, gD_fs, slotO_some, addTr_nil, addTr_cons, memQ_nil, memQ_cons, clash_nil, clash_cons, regC_none, regC_nil, regC_cons, regR_nil, regR_cons, Int.toNat_zero, Int.toNat_one, rng0, rng1, rng2, rng3, rng4, SC.take, SC.drop, mp_nil, acond_ct, acond_cf, mp_one0, mp_one1, mp_one2, mp_one3, kcall_one, liveB_row, liveB_box, idx, cont, still, dies, lend, lendA, lendDies, snocs, SC.snoc, SC.app, meet, AV.cells, fillA, List.getD_cons_zero, List.getD_cons_succ, List.set_cons_zero, List.set_cons_succ, List.length_singleton, Nat.le_refl, Nat.lt_irrefl, Nat.reduceLT, Nat.reduceLeDiff, Option.map_some, Option.map_none, List.flatMap_nil, List.flatMap_cons, Nat.zero_add, BEq.rfl, kcall_two, mp_two0, mp_two1, mp_two2, mp_two3, mp_two4, aop_makeFunc, plainA, Bool.true_and, sl3, ty3, un3, sl78, ty78, un78, sl106, ty106, un106, sl104, ty104, un104, sl5, ty5, un5, sl2, ty2, un2, sl21, ty21, un21, sl4, ty4, un4, sl9, un9, sl24, ty24, un24, sl22, ty22, un22, sl42, ty42, un42, sl47, sl82, sl68, sl107, sl115, sl119, ty82, ty56, sl56, ty26, sl26, ty101, sl101, ty93, sl93, inR64, inRu64, inRu32, gm_laws_markIntSS, gs_laws_markIntSS_122, at_laws_markIntS, lend_laws_markIntS]) (fun s a w hs hk => ?_) (fun s a w _ h => h.elim) (fun n s a w _ h => h.elim) hs
  obtain ⟨k0, k1, k2⟩ := hk
  have hs1 : Holds C ⟨[(0, .ref 0 xs.length), (1, .int .i64 k)], [.grid e t xs]⟩ a w := by
    obtain ⟨g, hG⟩ := hs
    refine ⟨g, hG.forget (fun t => ?_) (by simp only [St.bf, k2])⟩
    simp only [St.sl, getE]
    split
    · rename_i h; subst h; exact .inl k0.symm
    · split
      · rename_i h; subst h; exact .inl k1.symm
      · exact .inr rfl
  refine wp_seq (wp_seq ?_)
  refine wp_bc G_laws_markIntSS_ok hfo (by rw [hN]; rfl) hm1 (fun _ => False) [] (fun s => s = ⟨[(0, .ref 0 xs.length), (1, .int .i64 k), (5, .int .i64 0)], [.grid e t xs]⟩) (by simp only [kcode_at, kreg_at, bc_skip, bc_seq, bc_cond, bc_block, bc_exit, bc_ret, bc_region, lkX_cons, acond_tmp, aCase_t, aCase_f, aCase_b, afin_nil, cvE_some, resL, resV, resC, cv, cvL, pack, entryE, inPrm, entryB, inPrms, bxCells, Option.getD_some, acall_clo, add_sp, add_lend, kcall_nil, selOf, selC, selA, inArgs, inA, inL, okA, okL, okBx, okC, outA, outL, outU, outB, deep, deepL, boxIds, AV.bid, List.map_nil, List.map_cons, List.all_nil, List.all_cons, BEq.rfl, Bool.and_true, Bool.true_and, List.append_nil, aops_nil, aops_plain, aops_guard, kont_at, yes_at, no_at, aop_move, aop_assign, aop_pick, aop_alloc, aop_box, aop_build, aop_buildSlice, aop_load, aop_store, aop_nilCheck, aop_binOp, aop_unOp, aop_convert, aop_fieldAddr, aop_indexAddr, aop_slice, aop_extract, aop_makeSlice, aop_len, aop_max, aMax_int, slTy2, SC0, aop_append, aop_call, evalE, getE, putE, getB, setB, St.put, setsB, nth, AV.ofV, AV.blk, AV.bid, AV.one, SC.len, SC.get, List.length_nil, List.length_cons, Nat.reduceEqDiff, Nat.reduceAdd, ↓reduceIte, true_and, and_true, Bool.true_eq_false, Bool.false_eq_true, false_imp_iff, true_imp_iff, decide_eq_true_eq, Bool.not_eq_true', Bool.not_eq_false', decide_eq_false_iff_not, Option.isSome, List.nil_append, List.cons_append, aGuardO_some, aGuard_tt, aGuard_tf, aGuard_ft, aGuard_ff, aGuard_tb, aGuard_fb, aGuard_ts, aGuard_fs, aPick_b, aPick_t, aPick_f, aAlloc_one, aAlloc_flat, aBox_some, aBuild_flat, aInt_add, aBin_add, aInt_sub, aBin_sub, aInt_mul, aBin_mul, aInt_quo, aBin_quo, aInt_rem, aBin_rem, aInt_and, aBin_and, aInt_or, aBin_or, aInt_xor, aBin_xor, aInt_andNot, aBin_andNot, aInt_eql, aBin_eql, aInt_neq, aBin_neq, aInt_lss, aBin_lss, aInt_leq, aBin_leq, aInt_gtr, aBin_gtr, aInt_geq, aBin_geq, aBin_shl, aBin_shr, aShift_shl, aShift_shr, aBin_be1, aBin_bn1, aBin_be2, aBin_bn2, aBin_be3, aBin_bn3, aBin_be4, aBin_bn4, aBin_be5, aBin_bn5, aBin_be6, aBin_bn6, aBin_be7, aBin_bn7, aBin_be8, aBin_bn8, aBin_be9, aBin_bn9, aUn_b, aUn_t, aUn_f, aUn_i, aNil_ptr, aNil_pv, aConv_int, aField_ptr, aField_pv, aIdx_sl, aIdx_prm, aIdx_row, aIdx_drow, aMake_i, aMake_s, aExtr_tup, aLen_ref, aLen_nil, aLen_sl, aLen_prm, aLen_str, aBuildL_some, aBuildS_some, aLoad_1b, aLoad_1d, aLoad_fb, aLoad_fd, aLoad_1p, aLoad_fp, aLoad_ep, aLoad_rr, aLoad_rd, aStore_1, aStore_f, aStore_r, aApp_some, aAppend_nil, aAppend_ref, aSlice_h, aSlice_l, aSlice_lh, aop_slice3, aSlice3_r, aop_field, aFld_agg, aBinW_f, aBinW_t, aWrap_mul, aWrap_add, isW_tmp, isW_mulc, isW_addc, isW_sub, isW_quo, isW_rem, isW_and, isW_or, isW_xor, isW_andNot, isW_shl, isW_shr, isW_eql, isW_neq, isW_lss, isW_leq, isW_gtr, isW_geq, Int.reduceLT, aBinW_dF, aBinW_dT, bc_draw, kregD_at, aopsD_nil, aopsD_plain, aopsD_guard, kontD_at, splW_t, splW_f, contD_at, yesD_at, noD_at, splD_bool, splD_undef, splD_skip, splD_int, splD_tt, splD_ff, splD_str, splD_nil, splD_sl, splD_prm, splD_ref, splD_ptr, splD_rp, splD_ep, splD_pv, splD_agg, splD_tup, splD_clo, gD_tt, gD_tf, gD_ft, gD_ff, gD_ts, gD_fs, slotO_some, addTr_nil, addTr_cons, memQ_nil, memQ_cons, clash_nil, clash_cons, regC_none, regC_nil, regC_cons, regR_nil, regR_cons, Int.toNat_zero, Int.toNat_one, rng0, rng1, rng2, rng3, rng4, SC.take, SC.drop, mp_nil, acond_ct, acond_cf, mp_one0, mp_one1, mp_one2, mp_one3, kcall_one, liveB_row, liveB_box, idx, cont, still, dies, lend, lendA, lendDies, snocs, SC.snoc, SC.app, meet, AV.cells, fillA, List.getD_cons_zero, List.getD_cons_succ, List.set_cons_zero, List.set_cons_succ, List.length_singleton, Nat.le_refl, Nat.lt_irrefl, Nat.reduceLT, Nat.reduceLeDiff, Option.map_some, Option.map_none, List.flatMap_nil, List.flatMap_cons, Nat.zero_add, BEq.rfl, kcall_two, mp_two0, mp_two1, mp_two2, mp_two3, mp_two4, aop_makeFunc, plainA, Bool.true_and, sl3, ty3, un3, sl78, ty78, un78, sl106, ty106, un106, sl104, ty104, un104, sl5, ty5, un5, sl2, ty2, un2, sl21, ty21, un21, sl4, ty4, un4, sl9, un9, sl24, ty24, un24, sl22, ty22, un22, sl42, ty42, un42, sl47, sl82, sl68, sl107, sl115, sl119, ty82, ty56, sl56, ty26, sl26, ty101, sl101, ty93, sl93, inR64, inRu64, inRu32, gm_laws_markIntSS, gs_laws_markIntSS_122, at_laws_markIntS, lend_laws_markIntS]) (fun s a w hs hk => ?_) (fun s a w _ h => h.elim) (fun n s a w _ h => h.elim) hs1
  subst hk
  refine wp_block ?_
  refine loop_sound (fun i : Nat => i ≤ xs.length) (fun i => ⟨[(0, .ref 0 xs.length), (1, .int .i64 (k + gTot (xs.take i))), (5, .int .i64 i)], [.grid e t (gSt k xs i)]⟩) (fun i => xs.length - i) [0, 1, 5] (fun _ => [0]) [] 0
    (fun _ _ => by rw [hm1]; rfl) rfl (by simp [St.conv, St.bf, getE, putE, getB, cv, cvL, cvB, idx, still, pack, lifts, liftOne, liftC, liftK, killB, cellsOfB, setB]; simp [gSt, gMk, gTot]) (Nat.zero_le _) (fun i hi a w hsL => ?_) a w hs
  -- a round
  refine wp_seq ?_
  refine wp_bc G_laws_markIntSS_ok hfo (by rw [hN]; rfl) hm1 (fun _ => False) [(0, fun s => (getE s.env 1 = .int .i64 (k + gTot (xs.take i)) ∧ s.bx = [.grid e t (gSt k xs i)]) ∧ ¬ i < xs.length)]
    (fun s => (getE s.env 0 = .ref 0 xs.length ∧ getE s.env 1 = .int .i64 (k + gTot (xs.take i)) ∧ getE s.env 5 = .int .i64 i ∧ s.bx = [.grid e t (gSt k xs i)]) ∧ i < xs.length) (by simp only [kcode_at, kreg_at, bc_skip, bc_seq, bc_cond, bc_block, bc_exit, bc_ret, bc_region, lkX_cons, acond_tmp, aCase_t, aCase_f, aCase_b, afin_nil, cvE_some, resL, resV, resC, cv, cvL, pack, entryE, inPrm, entryB, inPrms, bxCells, Option.getD_some, acall_clo, add_sp, add_lend, kcall_nil, selOf, selC, selA, inArgs, inA, inL, okA, okL, okBx, okC, outA, outL, outU, outB, deep, deepL, boxIds, AV.bid, List.map_nil, List.map_cons, List.all_nil, List.all_cons, BEq.rfl, Bool.and_true, Bool.true_and, List.append_nil, aops_nil, aops_plain, aops_guard, kont_at, yes_at, no_at, aop_move, aop_assign, aop_pick, aop_alloc, aop_box, aop_build, aop_buildSlice, aop_load, aop_store, aop_nilCheck, aop_binOp, aop_unOp, aop_convert, aop_fieldAddr, aop_indexAddr, aop_slice, aop_extract, aop_makeSlice, aop_len, aop_max, aMax_int, slTy2, SC0, aop_append, aop_call, evalE, getE, putE, getB, setB, St.put, setsB, nth, AV.ofV, AV.blk, AV.bid, AV.one, SC.len, SC.get, List.length_nil, List.length_cons, Nat.reduceEqDiff, Nat.reduceAdd, ↓reduceIte, true_and, and_true, Bool.true_eq_false, Bool.false_eq_true, false_imp_iff, true_imp_iff, decide_eq_true_eq, Bool.not_eq_true', Bool.not_eq_false', decide_eq_false_iff_not, Option.isSome, List.nil_append, List.cons_append, aGuardO_some, aGuard_tt, aGuard_tf, aGuard_ft, aGuard_ff, aGuard_tb, aGuard_fb, aGuard_ts, aGuard_fs, aPick_b, aPick_t, aPick_f, aAlloc_one, aAlloc_flat, aBox_some, aBuild_flat, aInt_add, aBin_add, aInt_sub, aBin_sub, aInt_mul, aBin_mul, aInt_quo, aBin_quo, aInt_rem, aBin_rem, aInt_and, aBin_and, aInt_or, aBin_or, aInt_xor, aBin_xor, aInt_andNot, aBin_andNot, aInt_eql, aBin_eql, aInt_neq, aBin_neq, aInt_lss, aBin_lss, aInt_leq, aBin_leq, aInt_gtr, aBin_gtr, aInt_geq, aBin_geq, aBin_shl, aBin_shr, aShift_shl, aShift_shr, aBin_be1, aBin_bn1, aBin_be2, aBin_bn2, aBin_be3, aBin_bn3, aBin_be4, aBin_bn4, aBin_be5, aBin_bn5, aBin_be6, aBin_bn6, aBin_be7, aBin_bn7, aBin_be8, aBin_bn8, aBin_be9, aBin_bn9, aUn_b, aUn_t, aUn_f, aUn_i, aNil_ptr, aNil_pv, aConv_int, aField_ptr, aField_pv, aIdx_sl, aIdx_prm, aIdx_row, aIdx_drow, aMake_i, aMake_s, aExtr_tup, aLen_ref, aLen_nil, aLen_sl, aLen_prm, aLen_str, aBuildL_some, aBuildS_some, aLoad_1b, aLoad_1d, aLoad_fb, aLoad_fd, aLoad_1p, aLoad_fp, aLoad_ep, aLoad_rr, aLoad_rd, aStore_1, aStore_f, aStore_r, aApp_some, aAppend_nil, aAppend_ref, aSlice_h, aSlice_l, aSlice_lh, aop_slice3, aSlice3_r, aop_field, aFld_agg, aBinW_f, aBinW_t, aWrap_mul, aWrap_add, isW_tmp, isW_mulc, isW_addc, isW_sub, isW_quo, isW_rem, isW_and, isW_or, isW_xor, isW_andNot, isW_shl, isW_shr, isW_eql, isW_neq, isW_lss, isW_leq, isW_gtr, isW_geq, Int.reduceLT, aBinW_dF, aBinW_dT, bc_draw, kregD_at, aopsD_nil, aopsD_plain, aopsD_guard, kontD_at, splW_t, splW_f, contD_at, yesD_at, noD_at, splD_bool, splD_undef, splD_skip, splD_int, splD_tt, splD_ff, splD_str, splD_nil, splD_sl, splD_prm, splD_ref, splD_ptr, splD_rp, splD_ep, splD_pv, splD_agg, splD_tup, splD_clo, gD_tt, gD_tf, gD_ft, gD_ff, gD_ts, gD_fs, slotO_some, addTr_nil, addTr_cons, memQ_nil, memQ_cons, clash_nil, clash_cons, regC_none, regC_nil, regC_cons, regR_nil, regR_cons, Int.toNat_zero, Int.toNat_one, rng0, rng1, rng2, rng3, rng4, SC.take, SC.drop, mp_nil, acond_ct, acond_cf, mp_one0, mp_one1, mp_one2, mp_one3, kcall_one, liveB_row, liveB_box, idx, cont, still, dies, lend, lendA, lendDies, snocs, SC.snoc, SC.app, meet, AV.cells, fillA, List.getD_cons_zero, List.getD_cons_succ, List.set_cons_zero, List.set_cons_succ, List.length_singleton, Nat.le_refl, Nat.lt_irrefl, Nat.reduceLT, Nat.reduceLeDiff, Option.map_some, Option.map_none, List.flatMap_nil, List.flatMap_cons, Nat.zero_add, BEq.rfl, kcall_two, mp_two0, mp_two1, mp_two2, mp_two3, mp_two4, aop_makeFunc, plainA, Bool.true_and, sl3, ty3, un3, sl78, ty78, un78, sl106, ty106, un106, sl104, ty104, un104, sl5, ty5, un5, sl2, ty2, un2, sl21, ty21, un21, sl4, ty4, un4, sl9, un9, sl24, ty24, un24, sl22, ty22, un22, sl42, ty42, un42, sl47, sl82, sl68, sl107, sl115, sl119, ty82, ty56, sl56, ty26, sl26, ty101, sl101, ty93, sl93, inR64, inRu64, inRu32, gm_laws_markIntSS, gs_laws_markIntSS_122, at_laws_markIntS, lend_laws_markIntS, Int.toNat_natCast]; exact ⟨fun h => by omega, fun h => by omega⟩) (fun s a w hs hk => ?_) (fun s a w _ h => h.elim) (fun n s a w hsX hx => ?_) hsL
  · obtain ⟨⟨e0, e1, e5, eb⟩, hlt⟩ := hk
    refine wp_seq (wp_block ?_)
    obtain ⟨g, hG⟩ := hs
    have hgl := gSt_len (k := k) (ls := xs) (i := i)
    have hgg := gSt_get (k := k) (ls := xs) (i := i) hlt
    have hgt := gTot_take (ls := xs) (i := i) hlt
    have hgle := gTot_le (ls := xs) (i := i + 1)
    have hA := runs_laws_markIntS (k + gTot (xs.take i)) t (xs.getD i []).length (xs.getD i []) rfl (by omega)
    refine wp_region_lit (mark_ops G_laws_markIntSS_ok (by omega) (by rw [sl42]; rfl) ty24 hG (xss := gSt k xs i) (i := i) (k := k + gTot (xs.take i)) (k2 := k + gTot (xs.take (i + 1))) (ys := iotaI (k + gTot (xs.take i)) (xs.getD i []).length) (e := e) (t := t)
      (by rw [hgl]; exact e0) e5 e1 (by simp only [St.bf, eb]; rfl) (by omega) is_laws_markIntS.callable (by rw [hgg]; exact iotaI_len) (by rw [hgg, hgt]; rw [show k + ((gTot (xs.take i) + (xs.getD i []).length : Nat) : Int) = k + gTot (xs.take i) + (xs.getD i []).length by omega]; exact hA) ?_)
    intro a' w' sl' hG' s0 s5 s1
    rw [gSt_set hlt] at hG'
    have hs2 : Holds C ⟨[(0, .ref 0 xs.length), (1, .int .i64 (k + gTot (xs.take (i + 1)))), (5, .int .i64 i)], [.grid e t (gSt k xs (i + 1))]⟩ a' w' := by
      refine ⟨g, hG'.forget (fun t => ?_) ?_⟩
      · simp only [St.sl, getE]
        split
        · rename_i h; subst h; rw [s0, hgl]; exact .inl rfl
        · split
          · rename_i h; subst h; exact .inl s1.symm
          · split
            · rename_i h; subst h; exact .inl s5.symm
            · exact .inr rfl
      · funext b
        simp only [St.bf, eb]
        cases b with
        | zero => rw [upd_same]; rfl
        | succ b => rw [upd_other _ _ (by omega)]; cases b <;> rfl
    refine wp_bc G_laws_markIntSS_ok hfo (by rw [hN]; rfl) hm1 (fun _ => False) [] (klp 1 (fun i : Nat => i ≤ xs.length) (fun i => ⟨[(0, .ref 0 xs.length), (1, .int .i64 (k + gTot (xs.take i))), (5, .int .i64 i)], [.grid e t (gSt k xs i)]⟩) (fun i => xs.length - i) [0, 1, 5] (fun _ => [0]) i)
      (by simp only [kcode_at, kreg_at, bc_skip, bc_seq, bc_cond, bc_block, bc_exit, bc_ret, bc_region, lkX_cons, acond_tmp, aCase_t, aCase_f, aCase_b, afin_nil, cvE_some, resL, resV, resC, cv, cvL, pack, entryE, inPrm, entryB, inPrms, bxCells, Option.getD_some, acall_clo, add_sp, add_lend, kcall_nil, selOf, selC, selA, inArgs, inA, inL, okA, okL, okBx, okC, outA, outL, outU, outB, deep, deepL, boxIds, AV.bid, List.map_nil, List.map_cons, List.all_nil, List.all_cons, BEq.rfl, Bool.and_true, Bool.true_and, List.append_nil, aops_nil, aops_plain, aops_guard, kont_at, yes_at, no_at, aop_move, aop_assign, aop_pick, aop_alloc, aop_box, aop_build, aop_buildSlice, aop_load, aop_store, aop_nilCheck, aop_binOp, aop_unOp, aop_convert, aop_fieldAddr, aop_indexAddr, aop_slice, aop_extract, aop_makeSlice, aop_len, aop_max, aMax_int, slTy2, SC0, aop_append, aop_call, evalE, getE, putE, getB, setB, St.put, setsB, nth, AV.ofV, AV.blk, AV.bid, AV.one, SC.len, SC.get, List.length_nil, List.length_cons, Nat.reduceEqDiff, Nat.reduceAdd, ↓reduceIte, true_and, and_true, Bool.true_eq_false, Bool.false_eq_true, false_imp_iff, true_imp_iff, decide_eq_true_eq, Bool.not_eq_true', Bool.not_eq_false', decide_eq_false_iff_not, Option.isSome, List.nil_append, List.cons_append, aGuardO_some, aGuard_tt, aGuard_tf, aGuard_ft, aGuard_ff, aGuard_tb, aGuard_fb, aGuard_ts, aGuard_fs, aPick_b, aPick_t, aPick_f, aAlloc_one, aAlloc_flat, aBox_some, aBuild_flat, aInt_add, aBin_add, aInt_sub, aBin_sub, aInt_mul, aBin_mul, aInt_quo, aBin_quo, aInt_rem, aBin_rem, aInt_and, aBin_and, aInt_or, aBin_or, aInt_xor, aBin_xor, aInt_andNot, aBin_andNot, aInt_eql, aBin_eql, aInt_neq, aBin_neq, aInt_lss, aBin_lss, aInt_leq, aBin_leq, aInt_gtr, aBin_gtr, aInt_geq, aBin_geq, aBin_shl, aBin_shr, aShift_shl, aShift_shr, aBin_be1, aBin_bn1, aBin_be2, aBin_bn2, aBin_be3, aBin_bn3, aBin_be4, aBin_bn4, aBin_be5, aBin_bn5, aBin_be6, aBin_bn6, aBin_be7, aBin_bn7, aBin_be8, aBin_bn8, aBin_be9, aBin_bn9, aUn_b, aUn_t, aUn_f, aUn_i, aNil_ptr, aNil_pv, aConv_int, aField_ptr, aField_pv, aIdx_sl, aIdx_prm, aIdx_row, aIdx_drow, aMake_i, aMake_s, aExtr_tup, aLen_ref, aLen_nil, aLen_sl, aLen_prm, aLen_str, aBuildL_some, aBuildS_some, aLoad_1b, aLoad_1d, aLoad_fb, aLoad_fd, aLoad_1p, aLoad_fp, aLoad_ep, aLoad_rr, aLoad_rd, aStore_1, aStore_f, aStore_r, aApp_some, aAppend_nil, aAppend_ref, aSlice_h, aSlice_l, aSlice_lh, aop_slice3, aSlice3_r, aop_field, aFld_agg, aBinW_f, aBinW_t, aWrap_mul, aWrap_add, isW_tmp, isW_mulc, isW_addc, isW_sub, isW_quo, isW_rem, isW_and, isW_or, isW_xor, isW_andNot, isW_shl, isW_shr, isW_eql, isW_neq, isW_lss, isW_leq, isW_gtr, isW_geq, Int.reduceLT, aBinW_dF, aBinW_dT, bc_draw, kregD_at, aopsD_nil, aopsD_plain, aopsD_guard, kontD_at, splW_t, splW_f, contD_at, yesD_at, noD_at, splD_bool, splD_undef, splD_skip, splD_int, splD_tt, splD_ff, splD_str, splD_nil, splD_sl, splD_prm, splD_ref, splD_ptr, splD_rp, splD_ep, splD_pv, splD_agg, splD_tup, splD_clo, gD_tt, gD_tf, gD_ft, gD_ff, gD_ts, gD_fs, slotO_some, addTr_nil, addTr_cons, memQ_nil, memQ_cons, clash_nil, clash_cons, regC_none, regC_nil, regC_cons, regR_nil, regR_cons, Int.toNat_zero, Int.toNat_one, rng0, rng1, rng2, rng3, rng4, SC.take, SC.drop, mp_nil, acond_ct, acond_cf, mp_one0, mp_one1, mp_one2, mp_one3, kcall_one, liveB_row, liveB_box, idx, cont, still, dies, lend, lendA, lendDies, snocs, SC.snoc, SC.app, meet, AV.cells, fillA, List.getD_cons_zero, List.getD_cons_succ, List.set_cons_zero, List.set_cons_succ, List.length_singleton, Nat.le_refl, Nat.lt_irrefl, Nat.reduceLT, Nat.reduceLeDiff, Option.map_some, Option.map_none, List.flatMap_nil, List.flatMap_cons, Nat.zero_add, BEq.rfl, kcall_two, mp_two0, mp_two1, mp_two2, mp_two3, mp_two4, aop_makeFunc, plainA, Bool.true_and, sl3, ty3, un3, sl78, ty78, un78, sl106, ty106, un106, sl104, ty104, un104, sl5, ty5, un5, sl2, ty2, un2, sl21, ty21, un21, sl4, ty4, un4, sl9, un9, sl24, ty24, un24, sl22, ty22, un22, sl42, ty42, un42, sl47, sl82, sl68, sl107, sl115, sl119, ty82, ty56, sl56, ty26, sl26, ty101, sl101, ty93, sl93, inR64, inRu64, inRu32, gm_laws_markIntSS, gs_laws_markIntSS_122, at_laws_markIntS, lend_laws_markIntS, Int.toNat_natCast]; exact ⟨by omega, klp_of (i + 1) (by simp [St.conv, St.bf, getE, putE, getB, cv, cvL, cvB, idx, still, pack, lifts, liftOne, liftC, liftK, killB, cellsOfB, setB]) (by omega) (by omega)⟩) (fun s a w hs hk => ⟨s, hs, by rw [hm1]; exact hk⟩) (fun s a w _ h => h.elim) (fun n s a w _ h => h.elim) hs2
  · by_cases hn : n = 0
    · subst hn
      obtain ⟨⟨e1, eb⟩, hge⟩ := hx
      have hil : i = xs.length := by omega
      subst hil
      rw [List.take_length] at e1
      have hgm : gSt k xs xs.length = gMk k xs := by simp [gSt]
      rw [hgm] at eb
      have hs2 : Holds C ⟨[(1, .int .i64 (k + gTot xs))], [.grid e t (gMk k xs)]⟩ a w := by
        obtain ⟨g, hG⟩ := hsX
        refine ⟨g, hG.forget (fun t => ?_) (by simp only [St.bf, eb])⟩
        simp only [St.sl, getE]
        split
        · rename_i h; subst h; exact .inl e1.symm
        · exact .inr rfl
      show Code.wp _ _ _ _ _
      refine wp_bc G_laws_markIntSS_ok hfo (by rw [hN]; rfl) hm1 (afin0 Try.prog 1 [.tmp 4] (.int .i64 (k + gTot xs)) [.grid e t (gMk k xs)]) [] (fun _ => False) (by simp only [kcode_at, kreg_at, bc_skip, bc_seq, bc_cond, bc_block, bc_exit, bc_ret, bc_region, lkX_cons, acond_tmp, aCase_t, aCase_f, aCase_b, afin_nil, cvE_some, resL, resV, resC, cv, cvL, pack, entryE, inPrm, entryB, inPrms, bxCells, Option.getD_some, acall_clo, add_sp, add_lend, kcall_nil, selOf, selC, selA, inArgs, inA, inL, okA, okL, okBx, okC, outA, outL, outU, outB, deep, deepL, boxIds, AV.bid, List.map_nil, List.map_cons, List.all_nil, List.all_cons, BEq.rfl, Bool.and_true, Bool.true_and, List.append_nil, aops_nil, aops_plain, aops_guard, kont_at, yes_at, no_at, aop_move, aop_assign, aop_pick, aop_alloc, aop_box, aop_build, aop_buildSlice, aop_load, aop_store, aop_nilCheck, aop_binOp, aop_unOp, aop_convert, aop_fieldAddr, aop_indexAddr, aop_slice, aop_extract, aop_makeSlice, aop_len, aop_max, aMax_int, slTy2, SC0, aop_append, aop_call, evalE, getE, putE, getB, setB, St.put, setsB, nth, AV.ofV, AV.blk, AV.bid, AV.one, SC.len, SC.get, List.length_nil, List.length_cons, Nat.reduceEqDiff, Nat.reduceAdd, ↓reduceIte, true_and, and_true, Bool.true_eq_false, Bool.false_eq_true, false_imp_iff, true_imp_iff, decide_eq_true_eq, Bool.not_eq_true', Bool.not_eq_false', decide_eq_false_iff_not, Option.isSome, List.nil_append, List.cons_append, aGuardO_some, aGuard_tt, aGuard_tf, aGuard_ft, aGuard_ff, aGuard_tb, aGuard_fb, aGuard_ts, aGuard_fs, aPick_b, aPick_t, aPick_f, aAlloc_one, aAlloc_flat, aBox_some, aBuild_flat, aInt_add, aBin_add, aInt_sub, aBin_sub, aInt_mul, aBin_mul, aInt_quo, aBin_quo, aInt_rem, aBin_rem, aInt_and, aBin_and, aInt_or, aBin_or, aInt_xor, aBin_xor, aInt_andNot, aBin_andNot, aInt_eql, aBin_eql, aInt_neq, aBin_neq, aInt_lss, aBin_lss, aInt_leq, aBin_leq, aInt_gtr, aBin_gtr, aInt_geq, aBin_geq, aBin_shl, aBin_shr, aShift_shl, aShift_shr, aBin_be1, aBin_bn1, aBin_be2, aBin_bn2, aBin_be3, aBin_bn3, aBin_be4, aBin_bn4, aBin_be5, aBin_bn5, aBin_be6, aBin_bn6, aBin_be7, aBin_bn7, aBin_be8, aBin_bn8, aBin_be9, aBin_bn9, aUn_b, aUn_t, aUn_f, aUn_i, aNil_ptr, aNil_pv, aConv_int, aField_ptr, aField_pv, aIdx_sl, aIdx_prm, aIdx_row, aIdx_drow, aMake_i, aMake_s, aExtr_tup, aLen_ref, aLen_nil, aLen_sl, aLen_prm, aLen_str, aBuildL_some, aBuildS_some, aLoad_1b, aLoad_1d, aLoad_fb, aLoad_fd, aLoad_1p, aLoad_fp, aLoad_ep, aLoad_rr, aLoad_rd, aStore_1, aStore_f, aStore_r, aApp_some, aAppend_nil, aAppend_ref, aSlice_h, aSlice_l, aSlice_lh, aop_slice3, aSlice3_r, aop_field, aFld_agg, aBinW_f, aBinW_t, aWrap_mul, aWrap_add, isW_tmp, isW_mulc, isW_addc, isW_sub, isW_quo, isW_rem, isW_and, isW_or, isW_xor, isW_andNot, isW_shl, isW_shr, isW_eql, isW_neq, isW_lss, isW_leq, isW_gtr, isW_geq, Int.reduceLT, aBinW_dF, aBinW_dT, bc_draw, kregD_at, aopsD_nil, aopsD_plain, aopsD_guard, kontD_at, splW_t, splW_f, contD_at, yesD_at, noD_at, splD_bool, splD_undef, splD_skip, splD_int, splD_tt, splD_ff, splD_str, splD_nil, splD_sl, splD_prm, splD_ref, splD_ptr, splD_rp, splD_ep, splD_pv, splD_agg, splD_tup, splD_clo, gD_tt, gD_tf, gD_ft, gD_ff, gD_ts, gD_fs, slotO_some, addTr_nil, addTr_cons, memQ_nil, memQ_cons, clash_nil, clash_cons, regC_none, regC_nil, regC_cons, regR_nil, regR_cons, Int.toNat_zero, Int.toNat_one, rng0, rng1, rng2, rng3, rng4, SC.take, SC.drop, mp_nil, acond_ct, acond_cf, mp_one0, mp_one1, mp_one2, mp_one3, kcall_one, liveB_row, liveB_box, idx, cont, still, dies, lend, lendA, lendDies, snocs, SC.snoc, SC.app, meet, AV.cells, fillA, List.getD_cons_zero, List.getD_cons_succ, List.set_cons_zero, List.set_cons_succ, List.length_singleton, Nat.le_refl, Nat.lt_irrefl, Nat.reduceLT, Nat.reduceLeDiff, Option.map_some, Option.map_none, List.flatMap_nil, List.flatMap_cons, Nat.zero_add, BEq.rfl, kcall_two, mp_two0, mp_two1, mp_two2, mp_two3, mp_two4, aop_makeFunc, plainA, Bool.true_and, sl3, ty3, un3, sl78, ty78, un78, sl106, ty106, un106, sl104, ty104, un104, sl5, ty5, un5, sl2, ty2, un2, sl21, ty21, un21, sl4, ty4, un4, sl9, un9, sl24, ty24, un24, sl22, ty22, un22, sl42, ty42, un42, sl47, sl82, sl68, sl107, sl115, sl119, ty82, ty56, sl56, ty26, sl26, ty101, sl101, ty93, sl93, inR64, inRu64, inRu32, gm_laws_markIntSS, gs_laws_markIntSS_122, at_laws_markIntS, lend_laws_markIntS]; exact ⟨[0], _, rfl, rfl, by simp [St.conv, St.bf, getE, putE, getB, cv, cvL, cvB, idx, still, pack, lifts, liftOne, liftC, liftK, killB, cellsOfB, setB], by simp [St.conv, St.bf, getE, putE, getB, cv, cvL, cvB, idx, still, pack, lifts, liftOne, liftC, liftK, killB, cellsOfB, setB]⟩) (fun s a w _ h => h.elim) (fun s a w hs hk => ?_) (fun n s a w _ h => h.elim) hs2
      obtain ⟨keep, xs', hk1, hx1, hr1, ho1⟩ := hk
      exact ⟨s, xs', keep, hs, by rw [hm1]; exact hk1, hx1, hr1, ho1⟩
    · exfalso
      simp only [lkX_cons, if_neg (Ne.symm hn)] at hx
      exact hx
def lend_laws_markIntSS : List Nat := [0]
def sp_laws_markIntSS : List AV → List Bx → (AV → List Bx → Prop) → Prop
  | [.ref 0 n, .int .i64 k], [.grid e t xs], K => (n = xs.length) ∧ (0 ≤ k ∧ k + gTot xs ≤ 9223372036854775807) ∧ K (.int .i64 (k + gTot xs)) [.grid e t (gMk k xs)]
  | _, _, _ => False
theorem at_laws_markIntSS {k : Int} {e t : TypeId} {n : Nat} {xs : LL} {K : AV → List Bx → Prop} : sp_laws_markIntSS [.ref 0 n, .int .i64 k] [.grid e t xs] K = ((n = xs.length) ∧ (0 ≤ k ∧ k + gTot xs ≤ 9223372036854775807) ∧ K (.int .i64 (k + gTot xs)) [.grid e t (gMk k xs)]) := id rfl
theorem ok_laws_markIntSS : ∀ args giv K, sp_laws_markIntSS args giv K → ∃ r outs, ARuns Try.prog 36 args giv r outs ∧ K r outs := by
  intro args giv K hk
  unfold sp_laws_markIntSS at hk
  split at hk
  · obtain ⟨hp1, hp2, hk⟩ := hk; exact ⟨_, _, runs_laws_markIntSS _ _ _ _ _ hp1 hp2, hk⟩
  · exact hk.elim
theorem is_laws_heldIntS : FnIs Try.prog 123 21 [.tmp 4] (Try.f123.body.getD .skip) := ⟨⟨Try.f123, by kernel_rfl, by kernel_rfl, by kernel_rfl, by kernel_rfl⟩, by kernel_rfl, by kernel_rfl⟩
def G_laws_heldIntS : Gm := Gm.none
theorem G_laws_heldIntS_ok : G_laws_heldIntS.ok Try.prog := Gm.none_ok
theorem gm_laws_heldIntS {r : List Oper} {n : Nat} : splB G_laws_heldIntS r n = true := rfl
set_option maxHeartbeats 1000000 in
set_option maxRecDepth 100000 in
theorem runs_laws_heldIntS (xs : List Int) (k : Int) (hp1 : 0 ≤ k ∧ k + xs.length ≤ 9223372036854775807) : ARuns Try.prog 123 [.sl none (.ints .i64 xs), .int .i64 k] [] (.int .i64 (heldI xs k)) [] := by
  refine ARuns_bc G_laws_heldIntS_ok is_laws_heldIntS (by simp) fun hl hlB => ?_
  simp only [kcode_at, kreg_at, bc_skip, bc_seq, bc_cond, bc_block, bc_exit, bc_ret, bc_region, lkX_cons, acond_tmp, aCase_t, aCase_f, aCase_b, afin_nil, cvE_some, resL, resV, resC, cv, cvL, pack, entryE, inPrm, entryB, inPrms, bxCells, Option.getD_some, acall_clo, add_sp, add_lend, kcall_nil, selOf, selC, selA, inArgs, inA, inL, okA, okL, okBx, okC, outA, outL, outU, outB, deep, deepL, boxIds, AV.bid, List.map_nil, List.map_cons, List.all_nil, List.all_cons, BEq.rfl, Bool.and_true, Bool.true_and, List.append_nil, aops_nil, aops_plain, aops_guard, kont_at, yes_at, no_at, aop_move, aop_assign, aop_pick, aop_alloc, aop_box, aop_build, aop_buildSlice, aop_load, aop_store, aop_nilCheck, aop_binOp, aop_unOp, aop_convert, aop_fieldAddr, aop_indexAddr, aop_slice, aop_extract, aop_makeSlice, aop_len, aop_max, aMax_int, slTy2, SC0, aop_append, aop_call, evalE, getE, putE, getB, setB, St.put, setsB, nth, AV.ofV, AV.blk, AV.bid, AV.one, SC.len, SC.get, List.length_nil, List.length_cons, Nat.reduceEqDiff, Nat.reduceAdd, ↓reduceIte, true_and, and_true, Bool.true_eq_false, Bool.false_eq_true, false_imp_iff, true_imp_iff, decide_eq_true_eq, Bool.not_eq_true', Bool.not_eq_false', decide_eq_false_iff_not, Option.isSome, List.nil_append, List.cons_append, aGuardO_some, aGuard_tt, aGuard_tf, aGuard_ft, aGuard_ff, aGuard_tb, aGuard_fb, aGuard_ts, aGuard_fs, aPick_b, aPick_t, aPick_f, aAlloc_one, aAlloc_flat, aBox_some, aBuild_flat, aInt_add, aBin_add, aInt_sub, aBin_sub, aInt_mul, aBin_mul, aInt_quo, aBin_quo, aInt_rem, aBin_rem, aInt_and, aBin_and, aInt_or, aBin_or, aInt_xor, aBin_xor, aInt_andNot, aBin_andNot, aInt_eql, aBin_eql, aInt_neq, aBin_neq, aInt_lss, aBin_lss, aInt_leq, aBin_leq, aInt_gtr, aBin_gtr, aInt_geq, aBin_geq, aBin_shl, aBin_shr, aShift_shl, aShift_shr, aBin_be1, aBin_bn1, aBin_be2, aBin_bn2, aBin_be3, aBin_bn3, aBin_be4, aBin_bn4, aBin_be5, aBin_bn5, aBin_be6, aBin_bn6, aBin_be7, aBin_bn7, aBin_be8, aBin_bn8, aBin_be9, aBin_bn9, aUn_b, aUn_t, aUn_f, aUn_i, aNil_ptr, aNil_pv, aConv_int, aField_ptr, aField_pv, aIdx_sl, aIdx_prm, aIdx_row, aIdx_drow, aMake_i, aMake_s, aExtr_tup, aLen_ref, aLen_nil, aLen_sl, aLen_prm, aLen_str, aBuildL_some, aBuildS_some, aLoad_1b, aLoad_1d, aLoad_fb, aLoad_fd, aLoad_1p, aLoad_fp, aLoad_ep, aLoad_rr, aLoad_rd, aStore_1, aStore_f, aStore_r, aApp_some, aAppend_nil, aAppend_ref, aSlice_h, aSlice_l, aSlice_lh, aop_slice3, aSlice3_r, aop_field, aFld_agg, aBinW_f, aBinW_t, aWrap_mul, aWrap_add, isW_tmp, isW_mulc, isW_addc, isW_sub, isW_quo, isW_rem, isW_and, isW_or, isW_xor, isW_andNot, isW_shl, isW_shr, isW_eql, isW_neq, isW_lss, isW_leq, isW_gtr, isW_geq, Int.reduceLT, aBinW_dF, aBinW_dT, bc_draw, kregD_at, aopsD_nil, aopsD_plain, aopsD_guard, kontD_at, splW_t, splW_f, contD_at, yesD_at, noD_at, splD_bool, splD_undef, splD_skip, splD_int, splD_tt, splD_ff, splD_str, splD_nil, splD_sl, splD_prm, splD_ref, splD_ptr, splD_rp, splD_ep, splD_pv, splD_agg, splD_tup, splD_clo, gD_tt, gD_tf, gD_ft, gD_ff, gD_ts, gD_fs, slotO_some, addTr_nil, addTr_cons, memQ_nil, memQ_cons, clash_nil, clash_cons, regC_none, regC_nil, regC_cons, regR_nil, regR_cons, Int.toNat_zero, Int.toNat_one, rng0, rng1, rng2, rng3, rng4, SC.take, SC.drop, mp_nil, acond_ct, acond_cf, mp_one0, mp_one1, mp_one2, mp_one3, kcall_one, liveB_row, liveB_box, idx, cont, still, dies, lend, lendA, lendDies, snocs, SC.snoc, SC.app, meet, AV.cells, fillA, List.getD_cons_zero, List.getD_cons_succ, List.set_cons_zero, List.set_cons_succ, List.length_singleton, Nat.le_refl, Nat.lt_irrefl, Nat.reduceLT, Nat.reduceLeDiff, Option.map_some, Option.map_none, List.flatMap_nil, List.flatMap_cons, Nat.zero_add, BEq.rfl, kcall_two, mp_two0, mp_two1, mp_two2, mp_two3, mp_two4, aop_makeFunc, plainA, Bool.true_and, sl3, ty3, un3, sl78, ty78, un78, sl106, ty106, un106, sl104, ty104, un104, sl5, ty5, un5, sl2, ty2, un2, sl21, ty21, un21, sl4, ty4, un4, sl9, un9, sl24, ty24, un24, sl22, ty22, un22, sl42, ty42, un42, sl47, sl82, sl68, sl107, sl115, sl119, ty82, ty56, sl56, ty26, sl26, ty101, sl101, ty93, sl93, inR64, inRu64, inRu32, gm_laws_heldIntS, Try.f123]
  refine bc_loop (fun i : Nat => i ≤ xs.length ∧ ∀ j, j < i → xs.getD j 0 = k + j)
    (fun i => ⟨[(0, .prm 0 (.ints .i64 xs)), (1, .int .i64 (k + i)), (5, .int .i64 i)], []⟩) (fun i => xs.length - i)
    [0, 1, 5] [] 0 rfl (by simp [St.conv, St.bf, getE, putE, getB, cv, cvL, cvB, idx, still, pack, lifts, liftOne, liftC, liftK, killB, cellsOfB, setB]) (by simp) fun i ⟨h1, h2⟩ => ?_
  simp only [kcode_at, kreg_at, bc_skip, bc_seq, bc_cond, bc_block, bc_exit, bc_ret, bc_region, lkX_cons, acond_tmp, aCase_t, aCase_f, aCase_b, afin_nil, cvE_some, resL, resV, resC, cv, cvL, pack, entryE, inPrm, entryB, inPrms, bxCells, Option.getD_some, acall_clo, add_sp, add_lend, kcall_nil, selOf, selC, selA, inArgs, inA, inL, okA, okL, okBx, okC, outA, outL, outU, outB, deep, deepL, boxIds, AV.bid, List.map_nil, List.map_cons, List.all_nil, List.all_cons, BEq.rfl, Bool.and_true, Bool.true_and, List.append_nil, aops_nil, aops_plain, aops_guard, kont_at, yes_at, no_at, aop_move, aop_assign, aop_pick, aop_alloc, aop_box, aop_build, aop_buildSlice, aop_load, aop_store, aop_nilCheck, aop_binOp, aop_unOp, aop_convert, aop_fieldAddr, aop_indexAddr, aop_slice, aop_extract, aop_makeSlice, aop_len, aop_max, aMax_int, slTy2, SC0, aop_append, aop_call, evalE, getE, putE, getB, setB, St.put, setsB, nth, AV.ofV, AV.blk, AV.bid, AV.one, SC.len, SC.get, List.length_nil, List.length_cons, Nat.reduceEqDiff, Nat.reduceAdd, ↓reduceIte, true_and, and_true, Bool.true_eq_false, Bool.false_eq_true, false_imp_iff, true_imp_iff, decide_eq_true_eq, Bool.not_eq_true', Bool.not_eq_false', decide_eq_false_iff_not, Option.isSome, List.nil_append, List.cons_append, aGuardO_some, aGuard_tt, aGuard_tf, aGuard_ft, aGuard_ff, aGuard_tb, aGuard_fb, aGuard_ts, aGuard_fs, aPick_b, aPick_t, aPick_f, aAlloc_one, aAlloc_flat, aBox_some, aBuild_flat, aInt_add, aBin_add, aInt_sub, aBin_sub, aInt_mul, aBin_mul, aInt_quo, aBin_quo, aInt_rem, aBin_rem, aInt_and, aBin_and, aInt_or, aBin_or, aInt_xor, aBin_xor, aInt_andNot, aBin_andNot, aInt_eql, aBin_eql, aInt_neq, aBin_neq, aInt_lss, aBin_lss, aInt_leq, aBin_leq, aInt_gtr, aBin_gtr, aInt_geq, aBin_geq, aBin_shl, aBin_shr, aShift_shl, aShift_shr, aBin_be1, aBin_bn1, aBin_be2, aBin_bn2, aBin_be3, aBin_bn3, aBin_be4, aBin_bn4, aBin_be5, aBin_bn5, aBin_be6, aBin_bn6, aBin_be7, aBin_bn7, aBin_be8, aBin_bn8, aBin_be9, aBin_bn9, aUn_b, aUn_t, aUn_f, aUn_i, aNil_ptr, aNil_pv, aConv_int, aField_ptr, aField_pv, aIdx_sl, aIdx_prm, aIdx_row, aIdx_drow, aMake_i, aMake_s, aExtr_tup, aLen_ref, aLen_nil, aLen_sl, aLen_prm, aLen_str, aBuildL_some, aBuildS_some, aLoad_1b, aLoad_1d, aLoad_fb, aLoad_fd, aLoad_1p, aLoad_fp, aLoad_ep, aLoad_rr, aLoad_rd, aStore_1, aStore_f, aStore_r, aApp_some, aAppend_nil, aAppend_ref, aSlice_h, aSlice_l, aSlice_lh, aop_slice3, aSlice3_r, aop_field, aFld_agg, aBinW_f, aBinW_t, aWrap_mul, aWrap_add, isW_tmp, isW_mulc, isW_addc, isW_sub, isW_quo, isW_rem, isW_and, isW_or, isW_xor, isW_andNot, isW_shl, isW_shr, isW_eql, isW_neq, isW_lss, isW_leq, isW_gtr, isW_geq, Int.reduceLT, aBinW_dF, aBinW_dT, bc_draw, kregD_at, aopsD_nil, aopsD_plain, aopsD_guard, kontD_at, splW_t, splW_f, contD_at, yesD_at, noD_at, splD_bool, splD_undef, splD_skip, splD_int, splD_tt, splD_ff, splD_str, splD_nil, splD_sl, splD_prm, splD_ref, splD_ptr, splD_rp, splD_ep, splD_pv, splD_agg, splD_tup, splD_clo, gD_tt, gD_tf, gD_ft, gD_ff, gD_ts, gD_fs, slotO_some, addTr_nil, addTr_cons, memQ_nil, memQ_cons, clash_nil, clash_cons, regC_none, regC_nil, regC_cons, regR_nil, regR_cons, Int.toNat_zero, Int.toNat_one, rng0, rng1, rng2, rng3, rng4, SC.take, SC.drop, mp_nil, acond_ct, acond_cf, mp_one0, mp_one1, mp_one2, mp_one3, kcall_one, liveB_row, liveB_box, idx, cont, still, dies, lend, lendA, lendDies, snocs, SC.snoc, SC.app, meet, AV.cells, fillA, List.getD_cons_zero, List.getD_cons_succ, List.set_cons_zero, List.set_cons_succ, List.length_singleton, Nat.le_refl, Nat.lt_irrefl, Nat.reduceLT, Nat.reduceLeDiff, Option.map_some, Option.map_none, List.flatMap_nil, List.flatMap_cons, Nat.zero_add, BEq.rfl, kcall_two, mp_two0, mp_two1, mp_two2, mp_two3, mp_two4, aop_makeFunc, plainA, Bool.true_and, sl3, ty3, un3, sl78, ty78, un78, sl106, ty106, un106, sl104, ty104, un104, sl5, ty5, un5, sl2, ty2, un2, sl21, ty21, un21, sl4, ty4, un4, sl9, un9, sl24, ty24, un24, sl22, ty22, un22, sl42, ty42, un42, sl47, sl82, sl68, sl107, sl115, sl119, ty82, ty56, sl56, ty26, sl26, ty101, sl101, ty93, sl93, inR64, inRu64, inRu32, gm_laws_heldIntS, Int.toNat_natCast]
  refine ⟨fun hi => ⟨by omega, fun h => ?_, fun h => ⟨by omega, by omega, ?_⟩⟩, fun hi => ?_⟩
  · rw [heldI_f (i := i) (by omega) h]
  · refine klp_of (i + 1) ?_ ⟨by omega, fun j hj => ?_⟩ (by omega)
    · simp [St.conv, St.bf, getE, putE, getB, cv, cvL, cvB, idx, still, pack, lifts, liftOne, liftC, liftK, killB, cellsOfB, setB]
      omega
    · by_cases e : j = i
      · rw [e]; exact h
      · exact h2 j (by omega)
  · have : i = xs.length := by omega
    subst this
    rw [heldI_t h2]
def lend_laws_heldIntS : List Nat := []
def sp_laws_heldIntS : List AV → List Bx → (AV → List Bx → Prop) → Prop
  | [.sl none (.ints .i64 xs), .int .i64 k], [], K => (0 ≤ k ∧ k + xs.length ≤ 9223372036854775807) ∧ K (.int .i64 (heldI xs k)) []
  | _, _, _ => False
theorem at_laws_heldIntS {xs : List Int} {k : Int} {K : AV → List Bx → Prop} : sp_laws_heldIntS [.sl none (.ints .i64 xs), .int .i64 k] [] K = ((0 ≤ k ∧ k + xs.length ≤ 9223372036854775807) ∧ K (.int .i64 (heldI xs k)) []) := id rfl
theorem ok_laws_heldIntS : ∀ args giv K, sp_laws_heldIntS args giv K → ∃ r outs, ARuns Try.prog 123 args giv r outs ∧ K r outs := by
  intro args giv K hk
  unfold sp_laws_heldIntS at hk
  split at hk
  · obtain ⟨hp1, hk⟩ := hk; exact ⟨_, _, runs_laws_heldIntS _ _ hp1, hk⟩
  · exact hk.elim
theorem is_laws_heldIntSS : FnIs Try.prog 37 21 [.tmp 4] (Try.f37.body.getD .skip) := ⟨⟨Try.f37, by kernel_rfl, by kernel_rfl, by kernel_rfl, by kernel_rfl⟩, by kernel_rfl, by kernel_rfl⟩
def G_laws_heldIntSS : Gm := (Gm.none.add 123 lend_laws_heldIntS sp_laws_heldIntS)
theorem G_laws_heldIntSS_ok : G_laws_heldIntSS.ok Try.prog := (Gm.add_ok Gm.none_ok ok_laws_heldIntS)
theorem gm_laws_heldIntSS {r : List Oper} {n : Nat} : splB G_laws_heldIntSS r n = true := rfl
theorem gs_laws_heldIntSS_123 : G_laws_heldIntSS.sp 123 = sp_laws_heldIntS ∧ G_laws_heldIntSS.lend 123 = lend_laws_heldIntS := ⟨rfl, rfl⟩
set_option maxHeartbeats 1000000 in
set_option maxRecDepth 100000 in
theorem runs_laws_heldIntSS (fr : Option TypeId) (xs : LL) (k : Int) (hp1 : 0 ≤ k ∧ k + gTot xs ≤ 9223372036854775807) : ARuns Try.prog 37 [.sl none (.rows fr xs), .int .i64 k] [] (.int .i64 (gHeld k xs)) [] := by
  refine ARuns_bc G_laws_heldIntSS_ok is_laws_heldIntSS (by simp) fun hl hlB => ?_
  simp only [kcode_at, kreg_at, bc_skip, bc_seq, bc_cond, bc_block, bc_exit, bc_ret, bc_region, lkX_cons, acond_tmp, aCase_t, aCase_f, aCase_b, afin_nil, cvE_some, resL, resV, resC, cv, cvL, pack, entryE, inPrm, entryB, inPrms, bxCells, Option.getD_some, acall_clo, add_sp, add_lend, kcall_nil, selOf, selC, selA, inArgs, inA, inL, okA, okL, okBx, okC, outA, outL, outU, outB, deep, deepL, boxIds, AV.bid, List.map_nil, List.map_cons, List.all_nil, List.all_cons, BEq.rfl, Bool.and_true, Bool.true_and, List.append_nil, aops_nil, aops_plain, aops_guard, kont_at, yes_at, no_at, aop_move, aop_assign, aop_pick, aop_alloc, aop_box, aop_build, aop_buildSlice, aop_load, aop_store, aop_nilCheck, aop_binOp, aop_unOp, aop_convert, aop_fieldAddr, aop_indexAddr, aop_slice, aop_extract, aop_makeSlice, aop_len, aop_max, aMax_int, slTy2, SC0, aop_append, aop_call, evalE, getE, putE, getB, setB, St.put, setsB, nth, AV.ofV, AV.blk, AV.bid, AV.one, SC.len, SC.get, List.length_nil, List.length_cons, Nat.reduceEqDiff, Nat.reduceAdd, ↓reduceIte, true_and, and_true, Bool.true_eq_false, Bool.false_eq_true, false_imp_iff, true_imp_iff, decide_eq_true_eq, Bool.not_eq_true', Bool.not_eq_false', decide_eq_false_iff_not, Option.isSome, List.nil_append, List.cons_append, aGuardO_some, aGuard_tt, aGuard_tf, aGuard_ft, aGuard_ff, aGuard_tb, aGuard_fb, aGuard_ts, aGuard_fs, aPick_b, aPick_t, aPick_f, aAlloc_one, aAlloc_flat, aBox_some, aBuild_flat, aInt_add, aBin_add, aInt_sub, aBin_sub, aInt_mul, aBin_mul, aInt_quo, aBin_quo, aInt_rem, aBin_rem, aInt_and, aBin_and, aInt_or, aBin_or, aInt_xor, aBin_xor, aInt_andNot, aBin_andNot, aInt_eql, aBin_eql, aInt_neq, aBin_neq, aInt_lss, aBin_lss, aInt_leq, aBin_leq, aInt_gtr, aBin_gtr, aInt_geq, aBin_geq, aBin_shl, aBin_shr, aShift_shl, aShift_shr, aBin_be1, aBin_bn1, aBin_be2, aBin_bn2, aBin_be3, aBin_bn3, aBin_be4, aBin_bn4, aBin_be5, aBin_bn5, aBin_be6, aBin_bn6, aBin_be7, aBin_bn7, aBin_be8, aBin_bn8, aBin_be9, aBin_bn9, aUn_b, aUn_t, aUn_f, aUn_i, aNil_ptr, aNil_pv, aConv_int, aField_ptr, aField_pv, aIdx_sl, aIdx_prm, aIdx_row, aIdx_drow, aMake_i, aMake_s, aExtr_tup, aLen_ref, aLen_nil, aLen_sl, aLen_prm, aLen_str, aBuildL_some, aBuildS_some, aLoad_1b, aLoad_1d, aLoad_fb, aLoad_fd, aLoad_1p, aLoad_fp, aLoad_ep, aLoad_rr, aLoad_rd, aStore_1, aStore_f, aStore_r, aApp_some, aAppend_nil, aAppend_ref, aSlice_h, aSlice_l, aSlice_lh, aop_slice3, aSlice3_r, aop_field, aFld_agg, aBinW_f, aBinW_t, aWrap_mul, aWrap_add, isW_tmp, isW_mulc, isW_addc, isW_sub, isW_quo, isW_rem, isW_and, isW_or, isW_xor, isW_andNot, isW_shl, isW_shr, isW_eql, isW_neq, isW_lss, isW_leq, isW_gtr, isW_geq, Int.reduceLT, aBinW_dF, aBinW_dT, bc_draw, kregD_at, aopsD_nil, aopsD_plain, aopsD_guard, kontD_at, splW_t, splW_f, contD_at, yesD_at, noD_at, splD_bool, splD_undef, splD_skip, splD_int, splD_tt, splD_ff, splD_str, splD_nil, splD_sl, splD_prm, splD_ref, splD_ptr, splD_rp, splD_ep, splD_pv, splD_agg, splD_tup, splD_clo, gD_tt, gD_tf, gD_ft, gD_ff, gD_ts, gD_fs, slotO_some, addTr_nil, addTr_cons, memQ_nil, memQ_cons, clash_nil, clash_cons, regC_none, regC_nil, regC_cons, regR_nil, regR_cons, Int.toNat_zero, Int.toNat_one, rng0, rng1, rng2, rng3, rng4, SC.take, SC.drop, mp_nil, acond_ct, acond_cf, mp_one0, mp_one1, mp_one2, mp_one3, kcall_one, liveB_row, liveB_box, idx, cont, still, dies, lend, lendA, lendDies, snocs, SC.snoc, SC.app, meet, AV.cells, fillA, List.getD_cons_zero, List.getD_cons_succ, List.set_cons_zero, List.set_cons_succ, List.length_singleton, Nat.le_refl, Nat.lt_irrefl, Nat.reduceLT, Nat.reduceLeDiff, Option.map_some, Option.map_none, List.flatMap_nil, List.flatMap_cons, Nat.zero_add, BEq.rfl, kcall_two, mp_two0, mp_two1, mp_two2, mp_two3, mp_two4, aop_makeFunc, plainA, Bool.true_and, sl3, ty3, un3, sl78, ty78, un78, sl106, ty106, un106, sl104, ty104, un104, sl5, ty5, un5, sl2, ty2, un2, sl21, ty21, un21, sl4, ty4, un4, sl9, un9, sl24, ty24, un24, sl22, ty22, un22, sl42, ty42, un42, sl47, sl82, sl68, sl107, sl115, sl119, ty82, ty56, sl56, ty26, sl26, ty101, sl101, ty93, sl93, inR64, inRu64, inRu32, gm_laws_heldIntSS, gs_laws_heldIntSS_123, at_laws_heldIntS, lend_laws_heldIntS, Try.f37]
  simp only [lensA, lenA, lenSC] at hl
  refine bc_loop (fun p : Nat × Int => p.1 ≤ xs.length ∧ 0 ≤ p.2 ∧ p.2 + gTot (xs.drop p.1) ≤ 9223372036854775807 ∧ gHeld k xs = gHeld p.2 (xs.drop p.1))
    (fun p => ⟨[(0, .prm 0 (.rows fr xs)), (1, .int .i64 p.2), (5, .int .i64 p.1)], []⟩) (fun p => xs.length - p.1)
    [0, 1, 5] [] (0, k) rfl rfl (by simp; omega) fun ⟨i, q⟩ ⟨h1, h2, h3, h4⟩ => ?_
  simp only at h1 h2 h3 h4
  simp only [kcode_at, kreg_at, bc_skip, bc_seq, bc_cond, bc_block, bc_exit, bc_ret, bc_region, lkX_cons, acond_tmp, aCase_t, aCase_f, aCase_b, afin_nil, cvE_some, resL, resV, resC, cv, cvL, pack, entryE, inPrm, entryB, inPrms, bxCells, Option.getD_some, acall_clo, add_sp, add_lend, kcall_nil, selOf, selC, selA, inArgs, inA, inL, okA, okL, okBx, okC, outA, outL, outU, outB, deep, deepL, boxIds, AV.bid, List.map_nil, List.map_cons, List.all_nil, List.all_cons, BEq.rfl, Bool.and_true, Bool.true_and, List.append_nil, aops_nil, aops_plain, aops_guard, kont_at, yes_at, no_at, aop_move, aop_assign, aop_pick, aop_alloc, aop_box, aop_build, aop_buildSlice, aop_load, aop_store, aop_nilCheck, aop_binOp, aop_unOp, aop_convert, aop_fieldAddr, aop_indexAddr, aop_slice, aop_extract, aop_makeSlice, aop_len, aop_max, aMax_int, slTy2, SC0, aop_append, aop_call, evalE, getE, putE, getB, setB, St.put, setsB, nth, AV.ofV, AV.blk, AV.bid, AV.one, SC.len, SC.get, List.length_nil, List.length_cons, Nat.reduceEqDiff, Nat.reduceAdd, ↓reduceIte, true_and, and_true, Bool.true_eq_false, Bool.false_eq_true, false_imp_iff, true_imp_iff, decide_eq_true_eq, Bool.not_eq_true', Bool.not_eq_false', decide_eq_false_iff_not, Option.isSome, List.nil_append, List.cons_append, aGuardO_some, aGuard_tt, aGuard_tf, aGuard_ft, aGuard_ff, aGuard_tb, aGuard_fb, aGuard_ts, aGuard_fs, aPick_b, aPick_t, aPick_f, aAlloc_one, aAlloc_flat, aBox_some, aBuild_flat, aInt_add, aBin_add, aInt_sub, aBin_sub, aInt_mul, aBin_mul, aInt_quo, aBin_quo, aInt_rem, aBin_rem, aInt_and, aBin_and, aInt_or, aBin_or, aInt_xor, aBin_xor, aInt_andNot, aBin_andNot, aInt_eql, aBin_eql, aInt_neq, aBin_neq, aInt_lss, aBin_lss, aInt_leq, aBin_leq, aInt_gtr, aBin_gtr, aInt_geq, aBin_geq, aBin_shl, aBin_shr, aShift_shl, aShift_shr, aBin_be1, aBin_bn1, aBin_be2, aBin_bn2, aBin_be3, aBin_bn3, aBin_be4, aBin_bn4, aBin_be5, aBin_bn5, aBin_be6, aBin_bn6, aBin_be7, aBin_bn7, aBin_be8, aBin_bn8, aBin_be9, aBin_bn9, aUn_b, aUn_t, aUn_f, aUn_i, aNil_ptr, aNil_pv, aConv_int, aField_ptr, aField_pv, aIdx_sl, aIdx_prm, aIdx_row, aIdx_drow, aMake_i, aMake_s, aExtr_tup, aLen_ref, aLen_nil, aLen_sl, aLen_prm, aLen_str, aBuildL_some, aBuildS_some, aLoad_1b, aLoad_1d, aLoad_fb, aLoad_fd, aLoad_1p, aLoad_fp, aLoad_ep, aLoad_rr, aLoad_rd, aStore_1, aStore_f, aStore_r, aApp_some, aAppend_nil, aAppend_ref, aSlice_h, aSlice_l, aSlice_lh, aop_slice3, aSlice3_r, aop_field, aFld_agg, aBinW_f, aBinW_t, aWrap_mul, aWrap_add, isW_tmp, isW_mulc, isW_addc, isW_sub, isW_quo, isW_rem, isW_and, isW_or, isW_xor, isW_andNot, isW_shl, isW_shr, isW_eql, isW_neq, isW_lss, isW_leq, isW_gtr, isW_geq, Int.reduceLT, aBinW_dF, aBinW_dT, bc_draw, kregD_at, aopsD_nil, aopsD_plain, aopsD_guard, kontD_at, splW_t, splW_f, contD_at, yesD_at, noD_at, splD_bool, splD_undef, splD_skip, splD_int, splD_tt, splD_ff, splD_str, splD_nil, splD_sl, splD_prm, splD_ref, splD_ptr, splD_rp, splD_ep, splD_pv, splD_agg, splD_tup, splD_clo, gD_tt, gD_tf, gD_ft, gD_ff, gD_ts, gD_fs, slotO_some, addTr_nil, addTr_cons, memQ_nil, memQ_cons, clash_nil, clash_cons, regC_none, regC_nil, regC_cons, regR_nil, regR_cons, Int.toNat_zero, Int.toNat_one, rng0, rng1, rng2, rng3, rng4, SC.take, SC.drop, mp_nil, acond_ct, acond_cf, mp_one0, mp_one1, mp_one2, mp_one3, kcall_one, liveB_row, liveB_box, idx, cont, still, dies, lend, lendA, lendDies, snocs, SC.snoc, SC.app, meet, AV.cells, fillA, List.getD_cons_zero, List.getD_cons_succ, List.set_cons_zero, List.set_cons_succ, List.length_singleton, Nat.le_refl, Nat.lt_irrefl, Nat.reduceLT, Nat.reduceLeDiff, Option.map_some, Option.map_none, List.flatMap_nil, List.flatMap_cons, Nat.zero_add, BEq.rfl, kcall_two, mp_two0, mp_two1, mp_two2, mp_two3, mp_two4, aop_makeFunc, plainA, Bool.true_and, sl3, ty3, un3, sl78, ty78, un78, sl106, ty106, un106, sl104, ty104, un104, sl5, ty5, un5, sl2, ty2, un2, sl21, ty21, un21, sl4, ty4, un4, sl9, un9, sl24, ty24, un24, sl22, ty22, un22, sl42, ty42, un42, sl47, sl82, sl68, sl107, sl115, sl119, ty82, ty56, sl56, ty26, sl26, ty101, sl101, ty93, sl93, inR64, inRu64, inRu32, gm_laws_heldIntSS, gs_laws_heldIntSS_123, at_laws_heldIntS, lend_laws_heldIntS, Int.toNat_natCast]
  refine ⟨fun hlt => ?_, fun hge => ?_⟩
  · have hd := gTot_drop (ls := xs) (i := i) (by omega)
    have hg := gHeld_drop (q := q) (ls := xs) (i := i) (by omega)
    have hh := heldI_le (l := xs.getD i []) (q := q)
    rw [hd] at h3
    refine ⟨by omega, by omega, fun hn => by rw [h4, hg, if_pos hn], fun hn => ⟨by omega, klp_of (i + 1, heldI (xs.getD i []) q) (by simp [St.conv, St.bf, getE, putE, getB, cv, cvL, cvB, idx, still, pack, lifts, liftOne, liftC, liftK, killB, cellsOfB, setB]) ?_ (by dsimp only; omega)⟩⟩
    dsimp only
    exact ⟨by omega, by omega, by omega, by rw [h4, hg, if_neg hn]⟩
  · rw [h4, List.drop_of_length_le (by omega)]; rfl
def lend_laws_heldIntSS : List Nat := []
def sp_laws_heldIntSS : List AV → List Bx → (AV → List Bx → Prop) → Prop
  | [.sl none (.rows fr xs), .int .i64 k], [], K => (0 ≤ k ∧ k + gTot xs ≤ 9223372036854775807) ∧ K (.int .i64 (gHeld k xs)) []
  | _, _, _ => False
theorem at_laws_heldIntSS {fr : Option TypeId} {xs : LL} {k : Int} {K : AV → List Bx → Prop} : sp_laws_heldIntSS [.sl none (.rows fr xs), .int .i64 k] [] K = ((0 ≤ k ∧ k + gTot xs ≤ 9223372036854775807) ∧ K (.int .i64 (gHeld k xs)) []) := id rfl
theorem ok_laws_heldIntSS : ∀ args giv K, sp_laws_heldIntSS args giv K → ∃ r outs, ARuns Try.prog 37 args giv r outs ∧ K r outs := by
  intro args giv K hk
  unfold sp_laws_heldIntSS at hk
  split at hk
  · obtain ⟨hp1, hk⟩ := hk; exact ⟨_, _, runs_laws_heldIntSS _ _ _ hp1, hk⟩
  · exact hk.elim
theorem is_laws_FnExactSymmetricChains : FnIs Try.prog 4 63 [.tmp 2] (Try.f4.body.getD .skip) := ⟨⟨Try.f4, by kernel_rfl, by kernel_rfl, by kernel_rfl, by kernel_rfl⟩, by kernel_rfl, by kernel_rfl⟩
def G_laws_FnExactSymmetricChains : Gm := (((((Gm.none.add 33 lend_spec_SymmetricChains sp_spec_SymmetricChains).add 34 lend_impl_SymmetricChains sp_impl_SymmetricChains).add 35 lend_laws_eqIntSS sp_laws_eqIntSS).add 36 lend_laws_markIntSS sp_laws_markIntSS).add 37 lend_laws_heldIntSS sp_laws_heldIntSS)
theorem G_laws_FnExactSymmetricChains_ok : G_laws_FnExactSymmetricChains.ok Try.prog := (Gm.add_ok (Gm.add_ok (Gm.add_ok (Gm.add_ok (Gm.add_ok Gm.none_ok ok_spec_SymmetricChains) ok_impl_SymmetricChains) ok_laws_eqIntSS) ok_laws_markIntSS) ok_laws_heldIntSS)
theorem gm_laws_FnExactSymmetricChains {r : List Oper} {n : Nat} : splB G_laws_FnExactSymmetricChains r n = true := rfl
theorem gs_laws_FnExactSymmetricChains_33 : G_laws_FnExactSymmetricChains.sp 33 = sp_spec_SymmetricChains ∧ G_laws_FnExactSymmetricChains.lend 33 = lend_spec_SymmetricChains := ⟨rfl, rfl⟩
theorem gs_laws_FnExactSymmetricChains_34 : G_laws_FnExactSymmetricChains.sp 34 = sp_impl_SymmetricChains ∧ G_laws_FnExactSymmetricChains.lend 34 = lend_impl_SymmetricChains := ⟨rfl, rfl⟩
theorem gs_laws_FnExactSymmetricChains_35 : G_laws_FnExactSymmetricChains.sp 35 = sp_laws_eqIntSS ∧ G_laws_FnExactSymmetricChains.lend 35 = lend_laws_eqIntSS := ⟨rfl, rfl⟩
theorem gs_laws_FnExactSymmetricChains_36 : G_laws_FnExactSymmetricChains.sp 36 = sp_laws_markIntSS ∧ G_laws_FnExactSymmetricChains.lend 36 = lend_laws_markIntSS := ⟨rfl, rfl⟩
theorem gs_laws_FnExactSymmetricChains_37 : G_laws_FnExactSymmetricChains.sp 37 = sp_laws_heldIntSS ∧ G_laws_FnExactSymmetricChains.lend 37 = lend_laws_heldIntSS := ⟨rfl, rfl⟩
set_option maxHeartbeats 1000000 in
set_option maxRecDepth 100000 in
theorem runs_laws_FnExactSymmetricChains (n : Int) (hp1 : -9223372036854775808 ≤ n ∧ n ≤ 9223372036854775807) : ARuns Try.prog 4 [.int .i64 n] [] (.bool true) [] := by
  refine ARuns_bc G_laws_FnExactSymmetricChains_ok is_laws_FnExactSymmetricChains (by simp) fun hl hlB => ?_
  simp only [kcode_at, kreg_at, bc_skip, bc_seq, bc_cond, bc_block, bc_exit, bc_ret, bc_region, lkX_cons, acond_tmp, aCase_t, aCase_f, aCase_b, afin_nil, cvE_some, resL, resV, resC, cv, cvL, pack, entryE, inPrm, entryB, inPrms, bxCells, Option.getD_some, acall_clo, add_sp, add_lend, kcall_nil, selOf, selC, selA, inArgs, inA, inL, okA, okL, okBx, okC, outA, outL, outU, outB, deep, deepL, boxIds, AV.bid, List.map_nil, List.map_cons, List.all_nil, List.all_cons, BEq.rfl, Bool.and_true, Bool.true_and, List.append_nil, aops_nil, aops_plain, aops_guard, kont_at, yes_at, no_at, aop_move, aop_assign, aop_pick, aop_alloc, aop_box, aop_build, aop_buildSlice, aop_load, aop_store, aop_nilCheck, aop_binOp, aop_unOp, aop_convert, aop_fieldAddr, aop_indexAddr, aop_slice, aop_extract, aop_makeSlice, aop_len, aop_max, aMax_int, slTy2, SC0, aop_append, aop_call, evalE, getE, putE, getB, setB, St.put, setsB, nth, AV.ofV, AV.blk, AV.bid, AV.one, SC.len, SC.get, List.length_nil, List.length_cons, Nat.reduceEqDiff, Nat.reduceAdd, ↓reduceIte, true_and, and_true, Bool.true_eq_false, Bool.false_eq_true, false_imp_iff, true_imp_iff, decide_eq_true_eq, Bool.not_eq_true', Bool.not_eq_false', decide_eq_false_iff_not, Option.isSome, List.nil_append, List.cons_append, aGuardO_some, aGuard_tt, aGuard_tf, aGuard_ft, aGuard_ff, aGuard_tb, aGuard_fb, aGuard_ts, aGuard_fs, aPick_b, aPick_t, aPick_f, aAlloc_one, aAlloc_flat, aBox_some, aBuild_flat, aInt_add, aBin_add, aInt_sub, aBin_sub, aInt_mul, aBin_mul, aInt_quo, aBin_quo, aInt_rem, aBin_rem, aInt_and, aBin_and, aInt_or, aBin_or, aInt_xor, aBin_xor, aInt_andNot, aBin_andNot, aInt_eql, aBin_eql, aInt_neq, aBin_neq, aInt_lss, aBin_lss, aInt_leq, aBin_leq, aInt_gtr, aBin_gtr, aInt_geq, aBin_geq, aBin_shl, aBin_shr, aShift_shl, aShift_shr, aBin_be1, aBin_bn1, aBin_be2, aBin_bn2, aBin_be3, aBin_bn3, aBin_be4, aBin_bn4, aBin_be5, aBin_bn5, aBin_be6, aBin_bn6, aBin_be7, aBin_bn7, aBin_be8, aBin_bn8, aBin_be9, aBin_bn9, aUn_b, aUn_t, aUn_f, aUn_i, aNil_ptr, aNil_pv, aConv_int, aField_ptr, aField_pv, aIdx_sl, aIdx_prm, aIdx_row, aIdx_drow, aMake_i, aMake_s, aExtr_tup, aLen_ref, aLen_nil, aLen_sl, aLen_prm, aLen_str, aBuildL_some, aBuildS_some, aLoad_1b, aLoad_1d, aLoad_fb, aLoad_fd, aLoad_1p, aLoad_fp, aLoad_ep, aLoad_rr, aLoad_rd, aStore_1, aStore_f, aStore_r, aApp_some, aAppend_nil, aAppend_ref, aSlice_h, aSlice_l, aSlice_lh, aop_slice3, aSlice3_r, aop_field, aFld_agg, aBinW_f, aBinW_t, aWrap_mul, aWrap_add, isW_tmp, isW_mulc, isW_addc, isW_sub, isW_quo, isW_rem, isW_and, isW_or, isW_xor, isW_andNot, isW_shl, isW_shr, isW_eql, isW_neq, isW_lss, isW_leq, isW_gtr, isW_geq, Int.reduceLT, aBinW_dF, aBinW_dT, bc_draw, kregD_at, aopsD_nil, aopsD_plain, aopsD_guard, kontD_at, splW_t, splW_f, contD_at, yesD_at, noD_at, splD_bool, splD_undef, splD_skip, splD_int, splD_tt, splD_ff, splD_str, splD_nil, splD_sl, splD_prm, splD_ref, splD_ptr, splD_rp, splD_ep, splD_pv, splD_agg, splD_tup, splD_clo, gD_tt, gD_tf, gD_ft, gD_ff, gD_ts, gD_fs, slotO_some, addTr_nil, addTr_cons, memQ_nil, memQ_cons, clash_nil, clash_cons, regC_none, regC_nil, regC_cons, regR_nil, regR_cons, Int.toNat_zero, Int.toNat_one, rng0, rng1, rng2, rng3, rng4, SC.take, SC.drop, mp_nil, acond_ct, acond_cf, mp_one0, mp_one1, mp_one2, mp_one3, kcall_one, liveB_row, liveB_box, idx, cont, still, dies, lend, lendA, lendDies, snocs, SC.snoc, SC.app, meet, AV.cells, fillA, List.getD_cons_zero, List.getD_cons_succ, List.set_cons_zero, List.set_cons_succ, List.length_singleton, Nat.le_refl, Nat.lt_irrefl, Nat.reduceLT, Nat.reduceLeDiff, Option.map_some, Option.map_none, List.flatMap_nil, List.flatMap_cons, Nat.zero_add, BEq.rfl, kcall_two, mp_two0, mp_two1, mp_two2, mp_two3, mp_two4, aop_makeFunc, plainA, Bool.true_and, sl3, ty3, un3, sl78, ty78, un78, sl106, ty106, un106, sl104, ty104, un104, sl5, ty5, un5, sl2, ty2, un2, sl21, ty21, un21, sl4, ty4, un4, sl9, un9, sl24, ty24, un24, sl22, ty22, un22, sl42, ty42, un42, sl47, sl82, sl68, sl107, sl115, sl119, ty82, ty56, sl56, ty26, sl26, ty101, sl101, ty93, sl93, inR64, inRu64, inRu32, gm_laws_FnExactSymmetricChains, gs_laws_FnExactSymmetricChains_33, at_spec_SymmetricChains, lend_spec_SymmetricChains, gs_laws_FnExactSymmetricChains_34, at_impl_SymmetricChains, lend_impl_SymmetricChains, gs_laws_FnExactSymmetricChains_35, at_laws_eqIntSS, lend_laws_eqIntSS, gs_laws_FnExactSymmetricChains_36, at_laws_markIntSS, lend_laws_markIntSS, gs_laws_FnExactSymmetricChains_37, at_laws_heldIntSS, lend_laws_heldIntSS, liveB_grid, gTot_mk, gMk_len, gHeld_one, bne_self_eq_false, decide_true, Try.f4]
  have hl := scO_len (n := n)
  have ht : gTot (scO n) ≤ 7 * 64 := by
    refine Nat.le_trans (gTot_bd (m := 7) fun l hm => ?_) (Nat.mul_le_mul_left 7 hl)
    unfold scO at hm
    split at hm
    · rename_i h
      rw [inB_t] at h
      have := (symF_row hm).2
      omega
    · cases hm
  exact ⟨by omega, by omega, fun h => absurd h (by omega),
    fun _ => ⟨by omega, fun h => absurd h (by omega), fun _ => trivial⟩⟩
def lend_laws_FnExactSymmetricChains : List Nat := []
def sp_laws_FnExactSymmetricChains : List AV → List Bx → (AV → List Bx → Prop) → Prop
  | [.int .i64 n], [], K => (-9223372036854775808 ≤ n ∧ n ≤ 9223372036854775807) ∧ K (.bool true) []
  | _, _, _ => False
theorem at_laws_FnExactSymmetricChains {n : Int} {K : AV → List Bx → Prop} : sp_laws_FnExactSymmetricChains [.int .i64 n] [] K = ((-9223372036854775808 ≤ n ∧ n ≤ 9223372036854775807) ∧ K (.bool true) []) := id rfl
theorem ok_laws_FnExactSymmetricChains : ∀ args giv K, sp_laws_FnExactSymmetricChains args giv K → ∃ r outs, ARuns Try.prog 4 args giv r outs ∧ K r outs := by
  intro args giv K hk
  unfold sp_laws_FnExactSymmetricChains at hk
  split at hk
  · obtain ⟨hp1, hk⟩ := hk; exact ⟨_, _, runs_laws_FnExactSymmetricChains _ hp1, hk⟩
  · exact hk.elim
end Go.Proofs.Ytbookhehpebcmaa
