import Derived.Test.YtdpodfdjdophgaaA30
import Derived.Test.YtdpodfdjdophgaaSh
namespace Go.Proofs.Ytdpodfdjdophgaa
open AM
set_option linter.unusedSimpArgs false
set_option linter.unusedVariables false
theorem sl3 : slTy Try.prog 3 = none := by kernel_rfl
theorem ty3 : tyOf Try.prog 3 = .one (.int .i64 0) := by kernel_rfl
theorem un3 : Try.prog.underlying 3 = some (.int .i64) := by kernel_rfl
theorem sl49 : slTy Try.prog 49 = none := by kernel_rfl
theorem ty49 : tyOf Try.prog 49 = .one (.int .u64 0) := by kernel_rfl
theorem un49 : Try.prog.underlying 49 = some (.int .u64) := by kernel_rfl
theorem sl71 : slTy Try.prog 71 = none := by kernel_rfl
theorem ty71 : tyOf Try.prog 71 = .one (.int .u64 0) := by kernel_rfl
theorem un71 : Try.prog.underlying 71 = some (.int .u64) := by kernel_rfl
theorem sl69 : slTy Try.prog 69 = none := by kernel_rfl
theorem ty69 : tyOf Try.prog 69 = .one (.int .u32 0) := by kernel_rfl
theorem un69 : Try.prog.underlying 69 = some (.int .u32) := by kernel_rfl
theorem sl5 : slTy Try.prog 5 = none := by kernel_rfl
theorem ty5 : tyOf Try.prog 5 = .one (.int .u8 0) := by kernel_rfl
theorem un5 : Try.prog.underlying 5 = some (.int .u8) := by kernel_rfl
theorem sl2 : slTy Try.prog 2 = none := by kernel_rfl
theorem ty2 : tyOf Try.prog 2 = .one (.int .i64 0) := by kernel_rfl
theorem un2 : Try.prog.underlying 2 = some (.int .i64) := by kernel_rfl
theorem sl21 : slTy Try.prog 21 = none := by kernel_rfl
theorem ty21 : tyOf Try.prog 21 = .one (.int .i32 0) := by kernel_rfl
theorem un21 : Try.prog.underlying 21 = some (.int .i32) := by kernel_rfl
theorem sl4 : slTy Try.prog 4 = none := by kernel_rfl
theorem ty4 : tyOf Try.prog 4 = .one .ff := by kernel_rfl
theorem un4 : Try.prog.underlying 4 = some .bool := by kernel_rfl
theorem sl9 : slTy Try.prog 9 = none := by kernel_rfl
theorem un9 : Try.prog.underlying 9 = some .string := by kernel_rfl
theorem sl22 : slTy Try.prog 22 = some (3, .ints .i64 []) := by kernel_rfl
theorem ty22 : tyOf Try.prog 22 = .one .nil := by kernel_rfl
theorem un22 : Try.prog.underlying 22 = some (.slice 3) := by kernel_rfl
theorem sl31 : slTy Try.prog 31 = some (22, .rows (some 3) []) := by kernel_rfl
theorem ty31 : tyOf Try.prog 31 = .one .nil := by kernel_rfl
theorem un31 : Try.prog.underlying 31 = some (.slice 22) := by kernel_rfl
theorem sl36 : slTy Try.prog 36 = none := by kernel_rfl
theorem sl53 : slTy Try.prog 53 = none := by kernel_rfl
theorem ty38 : tyOf Try.prog 38 = .flat [.int .i64 0, .nil] := by kernel_rfl
theorem sl38 : slTy Try.prog 38 = none := by kernel_rfl
theorem ty41 : tyOf Try.prog 41 = .flat [.int .i64 0, .nil] := by kernel_rfl
theorem sl41 : slTy Try.prog 41 = none := by kernel_rfl
theorem inR64 {n : Int} : InR .i64 n = (-9223372036854775808 ≤ n ∧ n ≤ 9223372036854775807) := rfl
theorem inRu64 {n : Int} : InR .u64 n = (0 ≤ n ∧ n ≤ 18446744073709551615) := rfl
theorem inRu32 {n : Int} : InR .u32 n = (0 ≤ n ∧ n ≤ 4294967295) := rfl
def inB (n l m : Int) : Bool := decide (l ≤ n) && decide (n ≤ m)
theorem inB_t {n l m : Int} : (inB n l m = true) = (l ≤ n ∧ n ≤ m) := by simp [inB]
theorem inB_f {n l m : Int} : (inB n l m = false) = ¬ (l ≤ n ∧ n ≤ m) := by rw [← inB_t]; simp

theorem getD_get {xs : List Int} {i : Nat} (h : i < xs.length) : xs.getD i 0 = xs[i] := by rw [List.getD_eq_getElem?_getD, List.getElem?_eq_getElem h]; rfl
theorem take_succ_getD {xs : List Int} {i : Nat} (h : i < xs.length) : xs.take (i + 1) = xs.take i ++ [xs.getD i 0] := by
  rw [List.take_add_one, List.getElem?_eq_getElem h, getD_get h]; rfl
theorem copy_step {xs : List Int} {i : Nat} (h : i < xs.length) : (xs.take i ++ List.replicate (xs.length - i) 0).set i (xs.getD i 0) = xs.take (i + 1) ++ List.replicate (xs.length - (i + 1)) 0 := by
  have e : (xs.take i).length = i := by rw [List.length_take]; omega
  obtain ⟨m, hm⟩ : ∃ m, xs.length - i = m + 1 := ⟨xs.length - i - 1, by omega⟩
  rw [List.set_append_right _ _ (by omega), e, Nat.sub_self, hm, List.replicate_succ, List.set_cons_zero, take_succ_getD h, show xs.length - (i + 1) = m by omega, List.append_assoc]; rfl
/-- Two lists, element by element. -/
theorem eq_of_get {xs ys : List Int} (hl : xs.length = ys.length) (h : ∀ i, i < xs.length → xs.getD i 0 = ys.getD i 0) : xs = ys := by
  apply List.ext_getElem hl
  intro i h1 h2
  have := h i h1
  rwa [getD_get h1, getD_get h2] at this

def orBit (s e : Int) : Int := bor .i64 s (1 * 2 ^ e.toNat)
def bitAt (s e : Int) : Bool := decide (band .i64 (s / 2 ^ e.toNat) 1 = 1)
/-- The elements of a list as bits. -/
def seen (xs : List Int) : Int := xs.foldl orBit 0
theorem seen_nil : seen [] = 0 := rfl
theorem seen_snoc {xs : List Int} {x : Int} : seen (xs ++ [x]) = orBit (seen xs) x := by simp [seen]
theorem seen_succ {xs : List Int} {i : Nat} (h : i < xs.length) : seen (xs.take (i + 1)) = orBit (seen (xs.take i)) (xs.getD i 0) := by rw [take_succ_getD h, seen_snoc]
def okAt (n : Int) (xs : List Int) (i : Nat) : Bool := inB (xs.getD i 0) 0 (n - 1) && !bitAt (seen (xs.take i)) (xs.getD i 0)
def permB (n : Int) (xs : List Int) : Bool := decide ((xs.length : Int) = n) && (List.range xs.length).all (okAt n xs)
theorem permB_iff {n : Int} {xs : List Int} : permB n xs = true ↔ (xs.length : Int) = n ∧ ∀ i, i < xs.length → okAt n xs i = true := by
  simp [permB, List.all_eq_true]
theorem permB_false {n : Int} {xs : List Int} (h : ¬ ((xs.length : Int) = n ∧ ∀ i, i < xs.length → okAt n xs i = true)) : permB n xs = false := by
  rw [← permB_iff] at h; simpa using h
theorem pow_le62 {e : Int} (h : 0 ≤ e ∧ e ≤ 62) : 0 ≤ (1 : Int) * 2 ^ e.toNat ∧ (1 : Int) * 2 ^ e.toNat ≤ 2 ^ 62 := by
  have : (2 : Nat) ^ e.toNat ≤ 2 ^ 62 := Nat.pow_le_pow_right (by omega) (by omega)
  have h := Int.ofNat_le.2 this
  have h0 : (0 : Int) ≤ 2 ^ e.toNat := Int.pow_nonneg (by omega)
  simp at h
  omega
theorem okAt_iff {n : Int} {xs : List Int} {i : Nat} : okAt n xs i = true ↔ inB (xs.getD i 0) 0 (n - 1) = true ∧ ¬ band .i64 (seen (xs.take i) / 2 ^ (xs.getD i 0).toNat) 1 = 1 := by
  unfold okAt bitAt
  generalize xs.getD i 0 = e
  simp
/-- An order of at most six elements. -/
def ord6 (xs : List Int) : Bool := decide (xs.length ≤ 6) && permB xs.length xs
theorem ord6_t {xs : List Int} (h : ord6 xs = true) : xs.length ≤ 6 ∧ ∀ i, i < xs.length → 0 ≤ xs.getD i 0 ∧ xs.getD i 0 < 6 := by
  simp only [ord6, Bool.and_eq_true, decide_eq_true_eq] at h
  refine ⟨h.1, fun i hi => ?_⟩
  have := ((permB_iff.1 h.2).2 i hi)
  rw [okAt_iff, inB_t] at this
  omega
/-- The elements from a to b, as bits. -/
def sliceB (xs : List Int) (a b : Int) : Int := seen ((xs.take (b + 1).toNat).drop a.toNat)
def soiOk (xs : List Int) (a b : Int) : Bool := ord6 xs && (inB a 0 (xs.length - 1) && inB b a (xs.length - 1))
def soi (xs : List Int) (a b : Int) : Int := if soiOk xs a b = true then sliceB xs a b else 0
theorem soi_f {xs : List Int} {a b : Int} (h : ¬ (ord6 xs = true ∧ inB a 0 (xs.length - 1) = true ∧ inB b a (xs.length - 1) = true)) : soiOk xs a b = false ∧ soi xs a b = 0 := by
  have e : soiOk xs a b = false := by
    cases hh : soiOk xs a b with
    | false => rfl
    | true => exact absurd (by simpa [soiOk] using hh) h
  exact ⟨e, by simp [soi, e]⟩
theorem soi_t {xs : List Int} {a b : Int} (h : ord6 xs = true ∧ inB a 0 (xs.length - 1) = true ∧ inB b a (xs.length - 1) = true) : soiOk xs a b = true ∧ soi xs a b = sliceB xs a b := by
  have e : soiOk xs a b = true := by simpa [soiOk] using h
  exact ⟨e, by simp [soi, e]⟩
theorem sliceB_next {xs : List Int} {a : Int} {i : Nat} (ha : 0 ≤ a ∧ a.toNat ≤ i) (hi : i < xs.length) : seen ((xs.take (i + 1)).drop a.toNat) = orBit (seen ((xs.take i).drop a.toNat)) (xs.getD i 0) := by
  rw [take_succ_getD hi, List.drop_append_of_le_length (by rw [List.length_take]; omega), seen_snoc]

theorem wrap64 {n : Nat} (h : n < 2 ^ 63) : IntKind.wrap .i64 (n : Int) = n := by
  have h1 : (n : Int) % 2 ^ 64 = n := Int.emod_eq_of_lt (by omega) (by omega)
  simp only [IntKind.wrap, IntKind.bits, IntKind.signed, h1]
  rw [if_neg]
  simp; omega
theorem ofInt_nat {a : Nat} : BitVec.ofInt 64 (a : Int) = BitVec.ofNat 64 a := by simp
theorem bnd {a : Int} (h : 0 ≤ a) : a = ((a.toNat : Nat) : Int) := by omega
theorem band_nat {a b : Nat} (ha : a < 2 ^ 63) (hb : b < 2 ^ 63) : band .i64 a b = ((a &&& b : Nat) : Int) := by
  show IntKind.wrap .i64 ((BitVec.ofInt 64 (a : Int) &&& BitVec.ofInt 64 (b : Int)).toNat : Int) = _
  rw [ofInt_nat, ofInt_nat, BitVec.toNat_and, BitVec.toNat_ofNat, BitVec.toNat_ofNat]
  rw [Nat.mod_eq_of_lt (by omega), Nat.mod_eq_of_lt (by omega)]
  exact wrap64 (Nat.lt_of_le_of_lt Nat.and_le_left ha)
theorem bor_nat {a b : Nat} (ha : a < 2 ^ 63) (hb : b < 2 ^ 63) : bor .i64 a b = ((a ||| b : Nat) : Int) := by
  show IntKind.wrap .i64 ((BitVec.ofInt 64 (a : Int) ||| BitVec.ofInt 64 (b : Int)).toNat : Int) = _
  rw [ofInt_nat, ofInt_nat, BitVec.toNat_or, BitVec.toNat_ofNat, BitVec.toNat_ofNat]
  rw [Nat.mod_eq_of_lt (by omega), Nat.mod_eq_of_lt (by omega)]
  exact wrap64 (Nat.or_lt_two_pow ha hb)
theorem bxor_nat {a b : Nat} (ha : a < 2 ^ 63) (hb : b < 2 ^ 63) : bxor .i64 a b = ((a ^^^ b : Nat) : Int) := by
  show IntKind.wrap .i64 ((BitVec.ofInt 64 (a : Int) ^^^ BitVec.ofInt 64 (b : Int)).toNat : Int) = _
  rw [ofInt_nat, ofInt_nat, BitVec.toNat_xor, BitVec.toNat_ofNat, BitVec.toNat_ofNat]
  rw [Nat.mod_eq_of_lt (by omega), Nat.mod_eq_of_lt (by omega)]
  exact wrap64 (Nat.xor_lt_two_pow ha hb)
/-- a without b's bits. -/
theorem bandn_nat {a b : Nat} (ha : a < 2 ^ 63) (hb : b < 2 ^ 63) : bandn .i64 a b = ((a ^^^ (a &&& b) : Nat) : Int) := by
  have e : (BitVec.ofNat 64 a &&& ~~~ BitVec.ofNat 64 b) = BitVec.ofNat 64 a ^^^ (BitVec.ofNat 64 a &&& BitVec.ofNat 64 b) := by
    ext i hi
    simp only [BitVec.getElem_and, BitVec.getElem_not, BitVec.getElem_xor]
    cases (BitVec.ofNat 64 a)[i] <;> cases (BitVec.ofNat 64 b)[i] <;> rfl
  show IntKind.wrap .i64 ((BitVec.ofInt 64 (a : Int) &&& ~~~ BitVec.ofInt 64 (b : Int)).toNat : Int) = _
  rw [ofInt_nat, ofInt_nat, e, BitVec.toNat_xor, BitVec.toNat_and, BitVec.toNat_ofNat, BitVec.toNat_ofNat]
  rw [Nat.mod_eq_of_lt (show a < 2 ^ 64 by omega), Nat.mod_eq_of_lt (show b < 2 ^ 64 by omega)]
  exact wrap64 (Nat.xor_lt_two_pow ha (Nat.lt_of_le_of_lt Nat.and_le_left ha))
theorem xor_and_zero {a b : Nat} : a ^^^ (a &&& b) = 0 ↔ a &&& b = a := by
  constructor
  · intro h
    have : a ^^^ (a ^^^ (a &&& b)) = a ^^^ 0 := by rw [h]
    rwa [← Nat.xor_assoc, Nat.xor_self, Nat.zero_xor, Nat.xor_zero] at this
  · intro h; rw [h, Nat.xor_self]
theorem bandn_zero {a b : Int} (ha : 0 ≤ a ∧ a < 2 ^ 63) (hb : 0 ≤ b ∧ b < 2 ^ 63) : bandn .i64 a b = 0 ↔ band .i64 a b = a := by
  obtain ⟨a, rfl⟩ := Int.eq_ofNat_of_zero_le ha.1
  obtain ⟨b, rfl⟩ := Int.eq_ofNat_of_zero_le hb.1
  rw [bandn_nat (by omega) (by omega), band_nat (by omega) (by omega)]
  have := @xor_and_zero a b
  omega

def popF : Nat → Nat → Nat
  | 0, _ => 0
  | f + 1, n => n % 2 + popF f (n / 2)
def pop (n : Nat) : Nat := popF 64 n
def popI (s : Int) : Int := (pop s.toNat : Int)
theorem popF_zero : ∀ f, popF f 0 = 0
  | 0 => rfl
  | f + 1 => by simp [popF, popF_zero f]
theorem popF_enough : ∀ {f n : Nat}, n < 2 ^ f → popF (f + 1) n = popF f n
  | 0, n, h => by have : n = 0 := by simpa using h
                  subst this; rfl
  | f + 1, n, h => by
    have : n / 2 < 2 ^ f := by rw [Nat.pow_succ] at h; omega
    rw [popF, popF_enough this, popF]
theorem pop_step {n : Nat} (h : n < 2 ^ 64) : pop n = n % 2 + pop (n / 2) := by
  have : n / 2 < 2 ^ 63 := by omega
  unfold pop
  rw [popF, ← popF_enough this]
theorem pop_zero : pop 0 = 0 := popF_zero _
theorem popF_le : ∀ f n, popF f n ≤ f
  | 0, _ => Nat.le_refl _
  | f + 1, n => by have := popF_le f (n / 2); simp only [popF]; omega
theorem pop_le {n : Nat} : pop n ≤ 64 := popF_le _ _
theorem band_one {x : Int} (h : 0 ≤ x ∧ x < 2 ^ 63) : band .i64 x 1 = x % 2 := by
  obtain ⟨a, rfl⟩ := Int.eq_ofNat_of_zero_le h.1
  have := band_nat (a := a) (b := 1) (by omega) (by omega)
  rw [show ((1 : Nat) : Int) = 1 from rfl] at this
  rw [this, Nat.and_one_is_mod]; omega

theorem band_shr_one {S e : Nat} (h : S < 2 ^ 62) : band .i64 ((S : Int) / 2 ^ e) 1 = ((S / 2 ^ e % 2 : Nat) : Int) := by
  have h0 : S / 2 ^ e ≤ S := Nat.div_le_self _ _
  have e1 : (S : Int) / 2 ^ e = ((S / 2 ^ e : Nat) : Int) := by simp
  rw [e1]
  generalize S / 2 ^ e = q at *
  rw [band_one (by omega)]
  omega
/-- What has been put in, as bits. -/
theorem seen_bits {xs : List Int} (hx : ∀ i, i < xs.length → 0 ≤ xs.getD i 0 ∧ xs.getD i 0 ≤ 60) : ∀ {n : Nat}, n ≤ xs.length →
    ∃ S : Nat, seen (xs.take n) = S ∧ S < 2 ^ 61 ∧ ∀ e : Nat, S.testBit e = true ↔ ∃ j, j < n ∧ xs.getD j 0 = (e : Int)
  | 0, _ => ⟨0, rfl, by omega, fun e => by simp⟩
  | n + 1, h => by
    obtain ⟨S, h1, h2, h3⟩ := seen_bits hx (n := n) (by omega)
    have hn := hx n (by omega)
    obtain ⟨x, hxe⟩ := Int.eq_ofNat_of_zero_le hn.1
    have hp : (2 : Nat) ^ x < 2 ^ 61 := Nat.pow_lt_pow_right (by omega) (by omega)
    have ep : (1 : Int) * 2 ^ (xs.getD n 0).toNat = ((2 ^ x : Nat) : Int) := by rw [hxe]; simp
    refine ⟨S ||| 2 ^ x, ?_, Nat.or_lt_two_pow h2 hp, fun e => ?_⟩
    · rw [seen_succ (by omega), h1, orBit, ep, bor_nat (by omega) (by omega)]
    · rw [Nat.testBit_or, Bool.or_eq_true, h3, Nat.testBit_two_pow]
      constructor
      · rintro (⟨j, hj, he⟩ | he)
        · exact ⟨j, by omega, he⟩
        · exact ⟨n, by omega, by rw [hxe]; have : x = e := by simpa using he
                                 rw [this]⟩
      · rintro ⟨j, hj, he⟩
        by_cases e2 : j = n
        · subst e2; rw [hxe] at he
          have : x = e := by omega
          exact .inr (by simp [this])
        · exact .inl ⟨j, by omega, he⟩
theorem pig : ∀ (n : Nat) (l : List Nat), l.Nodup → (∀ x ∈ l, x < n) → l.length ≤ n
  | 0, [], _, _ => by simp
  | 0, x :: r, _, h => absurd (h x (by simp)) (by omega)
  | n + 1, l, hd, h => by
    by_cases hm : n ∈ l
    · have h1 := pig n (l.erase n) (hd.erase n) fun x hx => by
        rw [hd.mem_erase_iff] at hx
        have := h x hx.2
        omega
      rw [List.length_erase_of_mem hm] at h1
      omega
    · have := pig n l hd fun x hx => by
        have := h x hx
        have : x ≠ n := fun e => hm (e ▸ hx)
        omega
      omega
/-- An order has every element. -/
theorem perm_mem {xs : List Int} (h : permB xs.length xs = true) (h60 : xs.length ≤ 60) {e : Nat} (he : e < xs.length) : ∃ i, i < xs.length ∧ xs.getD i 0 = (e : Int) := by
  have hp := (permB_iff.1 h).2
  have hx : ∀ i, i < xs.length → 0 ≤ xs.getD i 0 ∧ xs.getD i 0 < xs.length := fun i hi => by
    have := hp i hi
    rw [okAt_iff, inB_t] at this
    omega
  have hd : ∀ i j, i < j → j < xs.length → xs.getD i 0 ≠ xs.getD j 0 := fun i j hij hj heq => by
    have := (okAt_iff.1 (hp j hj)).2
    obtain ⟨S, h1, h2, h3⟩ := seen_bits (xs := xs) (fun i hi => by have := hx i hi; omega) (n := j) (by omega)
    obtain ⟨x, hxe⟩ := Int.eq_ofNat_of_zero_le (hx j hj).1
    have hb := (h3 x).2 ⟨i, hij, by rw [heq, hxe]⟩
    rw [Nat.testBit_eq_decide_div_mod_eq, decide_eq_true_eq] at hb
    apply this
    rw [h1, hxe, Int.toNat_natCast, band_shr_one (by omega), hb]
    rfl
  by_cases hc : ∃ i, i < xs.length ∧ xs.getD i 0 = (e : Int)
  · exact hc
  · exfalso
    let l := xs.map Int.toNat
    have hl : ∀ i (hi : i < l.length), l[i] = (xs.getD i 0).toNat := fun i hi => by
      have : i < xs.length := by simpa [l] using hi
      simp only [l, List.getElem_map]; rw [getD_get this]
    have hln : l.length = xs.length := by simp [l]
    have nd : l.Nodup := by
      rw [List.Nodup, List.pairwise_iff_getElem]
      intro i j hi hj hij heq
      rw [hl i hi, hl j hj] at heq
      have h1 := hx i (by omega)
      have h2 := hx j (by omega)
      exact hd i j hij (by omega) (by omega)
    have ne : e ∉ l := fun hm => by
      obtain ⟨i, hi, heq⟩ := List.getElem_of_mem hm
      rw [hl i hi] at heq
      have h1 := hx i (by omega)
      exact hc ⟨i, by omega, by omega⟩
    have := pig xs.length (e :: l) (List.nodup_cons.2 ⟨ne, nd⟩) fun x hx' => by
      rcases List.mem_cons.1 hx' with rfl | hm
      · exact he
      · obtain ⟨i, hi, heq⟩ := List.getElem_of_mem hm
        rw [hl i hi] at heq
        have h1 := hx i (by omega)
        omega
    simp only [List.length_cons] at this
    omega

/-- For all indices below n. -/
def allN (n : Nat) (p : Nat → Bool) : Bool := (List.range n).all p
theorem allN_iff {n : Nat} {p : Nat → Bool} : allN n p = true ↔ ∀ i, i < n → p i = true := by simp [allN, List.all_eq_true]
theorem allN_t {n : Nat} {p : Nat → Bool} (h : ∀ i, i < n → p i = true) : allN n p = true := allN_iff.2 h
theorem allN_f {n : Nat} {p : Nat → Bool} (i : Nat) (hi : i < n) (h : p i = false) : allN n p = false := by
  cases hh : allN n p with
  | false => rfl
  | true => rw [allN_iff.1 hh i hi] at h; cases h
theorem allN_congr {n : Nat} {p q : Nat → Bool} (h : ∀ i, i < n → p i = q i) : allN n p = allN n q := by
  rw [Bool.eq_iff_iff, allN_iff, allN_iff]
  exact ⟨fun hh i hi => by rw [← h i hi]; exact hh i hi, fun hh i hi => by rw [h i hi]; exact hh i hi⟩
theorem and_f1 {a b : Bool} (h : a = false) : (a && b) = false := by simp [h]
theorem and_f2 {a b : Bool} (h : b = false) : (a && b) = false := by simp [h]
theorem and_tt {a b : Bool} (h : a = true) (h' : b = true) : (a && b) = true := by simp [h, h']
theorem upto_succ {p : Nat → Bool} {i : Nat} (h : ∀ k, k < i → p k = true) (hi : p i = true) : ∀ k, k < i + 1 → p k = true := fun k hk => by
  by_cases e : k = i
  · rw [e]; exact hi
  · exact h k (by omega)
theorem allN_succ {n : Nat} {p : Nat → Bool} : allN (n + 1) p = (allN n p && p n) := by
  rw [Bool.eq_iff_iff, Bool.and_eq_true, allN_iff, allN_iff]
  constructor
  · intro h; exact ⟨fun i hi => h i (by omega), h n (by omega)⟩
  · intro h; exact upto_succ h.1 h.2

/-- All elements, as bits. -/
def fullI (n : Int) : Int := 2 ^ n.toNat - 1
theorem full_bd {n : Int} (h : 0 ≤ n ∧ n ≤ 10) : 0 ≤ fullI n ∧ fullI n ≤ 1023 := by
  have h1 : (2 : Nat) ^ n.toNat ≤ 2 ^ 10 := Nat.pow_le_pow_right (by omega) (by omega)
  have h2 : 0 < (2 : Nat) ^ n.toNat := Nat.two_pow_pos _
  have e : ((2 ^ n.toNat : Nat) : Int) = 2 ^ n.toNat := by simp
  unfold fullI
  omega
theorem full_bd6 {n : Int} (h : 0 ≤ n ∧ n ≤ 6) : 0 ≤ fullI n ∧ fullI n ≤ 63 := by
  have h1 : (2 : Nat) ^ n.toNat ≤ 2 ^ 6 := Nat.pow_le_pow_right (by omega) (by omega)
  have h2 : 0 < (2 : Nat) ^ n.toNat := Nat.two_pow_pos _
  have e : ((2 ^ n.toNat : Nat) : Int) = 2 ^ n.toNat := by simp
  unfold fullI
  omega
def inS (n s : Int) : Bool := inB s 0 (fullI n)
/-- Sets of n elements. -/
def setsOk (n : Int) (xs : List Int) : Bool := inB n 0 6 && allN xs.length fun i => inS n (xs.getD i 0)
theorem setsOk_iff {n : Int} {xs : List Int} : setsOk n xs = true ↔ inB n 0 6 = true ∧ ∀ i, i < xs.length → inS n (xs.getD i 0) = true := by
  simp only [setsOk, Bool.and_eq_true, allN_iff]
theorem setsOk_bd {n : Int} {xs : List Int} (h : setsOk n xs = true) : (0 ≤ n ∧ n ≤ 6) ∧ ∀ i, i < xs.length → 0 ≤ xs.getD i 0 ∧ xs.getD i 0 ≤ 63 ∧ xs.getD i 0 ≤ fullI n := by
  rw [setsOk_iff, inB_t] at h
  have hf := full_bd6 h.1
  refine ⟨h.1, fun i hi => ?_⟩
  have := h.2 i hi
  rw [inS, inB_t] at this
  omega
def ascAt (xs : List Int) (i : Nat) : Bool := i == 0 || decide (xs.getD (i - 1) 0 < xs.getD i 0)
/-- A family: sets that ascend. -/
def famB (n : Int) (xs : List Int) : Bool := setsOk n xs && allN xs.length (ascAt xs)
theorem famB_iff {n : Int} {xs : List Int} : famB n xs = true ↔ setsOk n xs = true ∧ ∀ i, i < xs.length → ascAt xs i = true := by
  simp only [famB, Bool.and_eq_true, allN_iff]
theorem famB_f {n : Int} {xs : List Int} (h : ¬ (setsOk n xs = true ∧ ∀ i, i < xs.length → ascAt xs i = true)) : famB n xs = false := by
  rw [← famB_iff] at h; simpa using h
theorem famB_bd {n : Int} {xs : List Int} (h : famB n xs = true) : (0 ≤ n ∧ n ≤ 6) ∧ ∀ i, i < xs.length → 0 ≤ xs.getD i 0 ∧ xs.getD i 0 ≤ 63 ∧ xs.getD i 0 ≤ fullI n := setsOk_bd (famB_iff.1 h).1
theorem ascAt_iff {xs : List Int} {i : Nat} : ascAt xs i = true ↔ (i = 0 ∨ xs.getD (i - 1) 0 < xs.getD i 0) := by
  unfold ascAt
  generalize xs.getD (i - 1) 0 = a
  generalize xs.getD i 0 = b
  simp

def hitAt (xs : List Int) (s : Int) (i : Nat) : Prop := band .i64 (s / 2 ^ (xs.getD i 0).toNat) 1 = 1
instance {xs : List Int} {s : Int} {i : Nat} : Decidable (hitAt xs s i) := by unfold hitAt; infer_instance
def lastF (xs : List Int) (s : Int) : Nat → Int
  | 0 => -1
  | i + 1 => if hitAt xs s i then i else lastF xs s i
def firstF (xs : List Int) (s : Int) : Nat → Int
  | 0 => -1
  | i + 1 => if hitAt xs s i then (if firstF xs s i < 0 then i else firstF xs s i) else firstF xs s i
theorem lastF_t {xs : List Int} {s : Int} {i : Nat} (h : band .i64 (s / 2 ^ (xs.getD i 0).toNat) 1 = 1) : lastF xs s (i + 1) = (i : Int) := if_pos h
theorem lastF_f {xs : List Int} {s : Int} {i : Nat} (h : ¬ band .i64 (s / 2 ^ (xs.getD i 0).toNat) 1 = 1) : lastF xs s (i + 1) = lastF xs s i := if_neg h
theorem firstF_t {xs : List Int} {s : Int} {i : Nat} (h : band .i64 (s / 2 ^ (xs.getD i 0).toNat) 1 = 1) : firstF xs s (i + 1) = if firstF xs s i < 0 then (i : Int) else firstF xs s i := if_pos h
theorem firstF_f {xs : List Int} {s : Int} {i : Nat} (h : ¬ band .i64 (s / 2 ^ (xs.getD i 0).toNat) 1 = 1) : firstF xs s (i + 1) = firstF xs s i := if_neg h
theorem ends_bd {xs : List Int} {s : Int} : ∀ {n : Nat}, -1 ≤ firstF xs s n ∧ firstF xs s n < n + 1 ∧ -1 ≤ lastF xs s n ∧ lastF xs s n < n + 1
  | 0 => by simp [firstF, lastF]
  | n + 1 => by
    have := ends_bd (xs := xs) (s := s) (n := n)
    simp only [firstF, lastF]
    split
    · split <;> omega
    · omega
theorem first_hit {xs : List Int} {s : Int} : ∀ {n i : Nat}, i < n → hitAt xs s i → 0 ≤ firstF xs s n
  | 0, i, h, _ => by omega
  | n + 1, i, h, hh => by
    by_cases e : i = n
    · subst e; simp only [firstF]; rw [if_pos hh]; split <;> omega
    · have := first_hit (xs := xs) (s := s) (n := n) (i := i) (by omega) hh
      simp only [firstF]; split
      · split <;> omega
      · exact this
def wide (xs : List Int) (s : Int) : Bool := decide (lastF xs s xs.length - firstF xs s xs.length + 1 = popI s)
def ivlIn (xs : List Int) (s : Int) : Bool := ord6 xs && inB s 1 (fullI xs.length)
theorem ivl_first {xs : List Int} {s : Int} (h : ivlIn xs s = true) : 0 ≤ firstF xs s xs.length := by
  simp only [ivlIn, ord6, Bool.and_eq_true, decide_eq_true_eq, inB_t] at h
  obtain ⟨⟨h6, hp⟩, h1, h2⟩ := h
  have hf := full_bd6 (n := xs.length) (by omega)
  obtain ⟨S, rfl⟩ := Int.eq_ofNat_of_zero_le (a := s) (by omega)
  obtain ⟨e, he⟩ := Nat.exists_testBit_of_ne_zero (x := S) (by omega)
  have hS : S < 2 ^ xs.length := by
    have e2 : ((2 ^ xs.length : Nat) : Int) = 2 ^ ((xs.length : Int)).toNat := by simp
    unfold fullI at h2
    omega
  have hlt : e < xs.length := by
    by_cases hc : e < xs.length
    · exact hc
    · rw [Nat.testBit_lt_two_pow (Nat.lt_of_lt_of_le hS (Nat.pow_le_pow_right (by omega) (by omega)))] at he; cases he
  obtain ⟨i, hi, hie⟩ := perm_mem hp (by omega) hlt
  refine first_hit (i := i) hi ?_
  unfold hitAt
  rw [Nat.testBit_eq_decide_div_mod_eq, decide_eq_true_eq] at he
  rw [hie, Int.toNat_natCast, band_shr_one (by omega), he]
  rfl
def ivlOk (xs : List Int) (s : Int) : Bool := ivlIn xs s && wide xs s
def ivlA (xs : List Int) (s : Int) : Int := if ivlOk xs s = true then firstF xs s xs.length else 0
def ivlB (xs : List Int) (s : Int) : Int := if ivlOk xs s = true then lastF xs s xs.length else 0
theorem ivl_f {xs : List Int} {s : Int} (h : ivlOk xs s = false) : ivlA xs s = 0 ∧ ivlB xs s = 0 := by simp [ivlA, ivlB, h]
theorem ivl_t {xs : List Int} {s : Int} (h : ivlOk xs s = true) : ivlA xs s = firstF xs s xs.length ∧ ivlB xs s = lastF xs s xs.length := by simp [ivlA, ivlB, h]

def fitAt (xs order : List Int) (i : Nat) : Bool := decide (xs.getD i 0 = 0) || wide order (xs.getD i 0)
def fitB (xs order : List Int) : Bool := allN xs.length (fitAt xs order)
def ordF (n : Int) (order : List Int) : Bool := permB n order
theorem ordF_eq {n : Int} {order : List Int} (hn : 0 ≤ n ∧ n ≤ 6) : (decide ((order.length : Int) = n) && ord6 order) = permB n order := by
  rw [Bool.eq_iff_iff, Bool.and_eq_true, decide_eq_true_iff]
  constructor
  · rintro ⟨h1, h2⟩
    simp only [ord6, Bool.and_eq_true] at h2
    rw [← h1]; exact h2.2
  · intro h
    have h1 := (permB_iff.1 h).1
    refine ⟨h1, ?_⟩
    rw [← h1] at h
    simp only [ord6, Bool.and_eq_true, decide_eq_true_eq]
    exact ⟨by omega, h⟩
theorem perm_in {n : Int} {order : List Int} (hn : 0 ≤ n ∧ n ≤ 6) (h : permB n order = true) : order.length ≤ 6 ∧ (order.length : Int) = n ∧ ord6 order = true ∧ ∀ i, i < order.length → 0 ≤ order.getD i 0 ∧ order.getD i 0 < 6 := by
  rw [← ordF_eq hn, Bool.and_eq_true, decide_eq_true_iff] at h
  have := ord6_t h.2
  exact ⟨this.1, h.1, h.2, this.2⟩
theorem fit_first {n s : Int} {order : List Int} (hn : 0 ≤ n ∧ n ≤ 6) (h : permB n order = true) (hs : 0 ≤ s ∧ s ≤ fullI n) (h0 : ¬ s = 0) : 0 ≤ firstF order s order.length := by
  have hp := perm_in hn h
  refine ivl_first (s := s) ?_
  rw [ivlIn, hp.2.2.1, Bool.true_and, inB_t, hp.2.1]
  omega

/-- Ascending, each once. -/
def Asc (l : List Int) : Prop := l.Pairwise (· < ·)
theorem asc_nil : Asc [] := List.Pairwise.nil
theorem asc_ext : ∀ {l m : List Int}, Asc l → Asc m → (∀ y, y ∈ l ↔ y ∈ m) → l = m
  | [], [], _, _, _ => rfl
  | [], b :: m, _, _, h => absurd ((h b).2 List.mem_cons_self) (by simp)
  | a :: l, [], _, _, h => absurd ((h a).1 List.mem_cons_self) (by simp)
  | a :: l, b :: m, hl, hm, h => by
    rw [Asc, List.pairwise_cons] at hl hm
    have hab : a = b := by
      have h1 := (h a).1 List.mem_cons_self
      have h2 := (h b).2 List.mem_cons_self
      rw [List.mem_cons] at h1 h2
      rcases h1 with h1 | h1
      · exact h1
      · rcases h2 with h2 | h2
        · exact h2.symm
        · have := hl.1 b h2
          have := hm.1 a h1
          omega
    subst hab
    congr 1
    refine asc_ext hl.2 hm.2 fun y => ?_
    have hy := h y
    rw [List.mem_cons, List.mem_cons] at hy
    constructor
    · intro h1
      rcases hy.1 (.inr h1) with h2 | h2
      · have := hl.1 y h1; omega
      · exact h2
    · intro h1
      rcases hy.2 (.inr h1) with h2 | h2
      · have := hm.1 y h1; omega
      · exact h2
/-- Where a number goes: behind those that are not greater. -/
def posF (xs : List Int) (x : Int) : Nat → Nat
  | 0 => 0
  | k + 1 => if x < xs.getD k 0 then posF xs x k else k + 1
def posL (xs : List Int) (x : Int) : Nat := posF xs x xs.length
theorem posF_t {xs : List Int} {x : Int} {k : Nat} (h : x < xs.getD k 0) : posF xs x (k + 1) = posF xs x k := if_pos h
theorem posF_f {xs : List Int} {x : Int} {k : Nat} (h : ¬ x < xs.getD k 0) : posF xs x (k + 1) = k + 1 := if_neg h
theorem posF_le {xs : List Int} {x : Int} : ∀ {k : Nat}, posF xs x k ≤ k
  | 0 => Nat.le_refl _
  | k + 1 => by
    have := posF_le (xs := xs) (x := x) (k := k)
    simp only [posF]; split <;> omega
theorem posF_above {xs : List Int} {x : Int} : ∀ {k j : Nat}, posF xs x k ≤ j → j < k → x < xs.getD j 0
  | 0, j, _, h => by omega
  | k + 1, j, h1, h2 => by
    by_cases h : x < xs.getD k 0
    · rw [posF_t h] at h1
      by_cases e : j = k
      · subst e; exact h
      · exact posF_above h1 (by omega)
    · rw [posF_f h] at h1; omega
theorem posF_at {xs : List Int} {x : Int} : ∀ {k : Nat}, 0 < posF xs x k → xs.getD (posF xs x k - 1) 0 ≤ x
  | 0, h => by simp [posF] at h
  | k + 1, h => by
    by_cases h1 : x < xs.getD k 0
    · rw [posF_t h1] at h ⊢; exact posF_at h
    · rw [posF_f h1]; simpa using h1
def hasP (xs : List Int) (x : Int) : Bool := decide (0 < posL xs x) && decide (xs.getD (posL xs x - 1) 0 = x)
def putL (xs : List Int) (x : Int) : List Int := if hasP xs x = true then xs else xs.take (posL xs x) ++ [x] ++ xs.drop (posL xs x)
theorem putL_t {xs : List Int} {x : Int} (h : hasP xs x = true) : putL xs x = xs := if_pos h
theorem putL_f {xs : List Int} {x : Int} (h : hasP xs x = false) : putL xs x = xs.take (posL xs x) ++ [x] ++ xs.drop (posL xs x) := if_neg (by simp [h])
theorem putL_len {xs : List Int} {x : Int} : (putL xs x).length ≤ xs.length + 1 := by
  unfold putL; split
  · omega
  · simp; omega
theorem mem_getD {xs : List Int} {y : Int} : y ∈ xs ↔ ∃ i, i < xs.length ∧ xs.getD i 0 = y := by
  rw [List.mem_iff_getElem]
  constructor
  · rintro ⟨i, h, e⟩; exact ⟨i, h, by rw [getD_get h]; exact e⟩
  · rintro ⟨i, h, e⟩; exact ⟨i, h, by rw [getD_get h] at e; exact e⟩
theorem putL_mem {xs : List Int} {x y : Int} : y ∈ putL xs x ↔ y = x ∨ y ∈ xs := by
  by_cases h : hasP xs x = true
  · rw [putL_t h]
    constructor
    · exact .inr
    · rintro (e | e)
      · subst e
        simp only [hasP, Bool.and_eq_true, decide_eq_true_eq] at h
        have := posF_le (xs := xs) (x := y) (k := xs.length)
        exact mem_getD.2 ⟨posL xs y - 1, by unfold posL at *; omega, h.2⟩
      · exact e
  · rw [putL_f (by simpa using h)]
    have e : y ∈ xs ↔ y ∈ xs.take (posL xs x) ∨ y ∈ xs.drop (posL xs x) := by
      rw [← List.mem_append, List.take_append_drop]
    rw [e]
    simp only [List.mem_append, List.mem_singleton]
    constructor
    · rintro ((h1 | h1) | h1)
      · exact .inr (.inl h1)
      · exact .inl h1
      · exact .inr (.inr h1)
    · rintro (h1 | h1 | h1)
      · exact .inl (.inr h1)
      · exact .inl (.inl h1)
      · exact .inr h1
theorem asc_get {xs : List Int} (h : Asc xs) {i j : Nat} (hij : i < j) (hj : j < xs.length) : xs.getD i 0 < xs.getD j 0 := by
  rw [getD_get (by omega), getD_get hj]
  exact List.pairwise_iff_getElem.1 h i j (by omega) hj hij
theorem asc_of {xs : List Int} (h : ∀ i j, i < j → j < xs.length → xs.getD i 0 < xs.getD j 0) : Asc xs := by
  rw [Asc, List.pairwise_iff_getElem]
  intro i j hi hj hij
  have := h i j hij hj
  rwa [getD_get hi, getD_get hj] at this
theorem putL_asc {xs : List Int} {x : Int} (h : Asc xs) : Asc (putL xs x) := by
  by_cases hp : hasP xs x = true
  · rw [putL_t hp]; exact h
  · rw [putL_f (by simpa using hp)]
    have hle := posF_le (xs := xs) (x := x) (k := xs.length)
    have habove : ∀ j, posL xs x ≤ j → j < xs.length → x < xs.getD j 0 := fun j h1 h2 => posF_above h1 h2
    have hbelow : ∀ j, j < posL xs x → xs.getD j 0 < x := fun j hj => by
      have h0 : 0 < posL xs x := by omega
      have h1 : xs.getD (posL xs x - 1) 0 ≤ x := posF_at h0
      have hne : ¬ xs.getD (posL xs x - 1) 0 = x := fun e => hp (by simp only [hasP, e, h0, decide_true, Bool.and_self])
      by_cases e : j = posL xs x - 1
      · subst e; omega
      · have := asc_get h (i := j) (j := posL xs x - 1) (by omega) (by unfold posL at *; omega)
        omega
    have htl : ∀ y, y ∈ xs.take (posL xs x) → y < x := fun y hy => by
      obtain ⟨i, hi, rfl⟩ := List.mem_iff_getElem.1 hy
      rw [List.length_take] at hi
      rw [List.getElem_take]
      have := hbelow i (by omega)
      rwa [getD_get (by omega)] at this
    have hdr : ∀ y, y ∈ xs.drop (posL xs x) → x < y := fun y hy => by
      obtain ⟨i, hi, rfl⟩ := List.mem_iff_getElem.1 hy
      rw [List.length_drop] at hi
      rw [List.getElem_drop]
      have := habove (posL xs x + i) (by omega) (by omega)
      rwa [getD_get (by omega)] at this
    rw [Asc, List.pairwise_append, List.pairwise_append]
    refine ⟨⟨List.Pairwise.sublist (List.take_sublist _ _) h, List.pairwise_singleton _ _, fun a ha b hb => by simp only [List.mem_singleton] at hb; subst hb; exact htl a ha⟩, List.Pairwise.sublist (List.drop_sublist _ _) h, fun a ha b hb => ?_⟩
    have h2 := hdr b hb
    rw [List.mem_append] at ha
    rcases ha with ha | ha
    · have := htl a ha; omega
    · simp only [List.mem_singleton] at ha; subst ha; exact h2

/-- One more element behind, in all ways. -/
def extF (p : List Int) : Nat → List (List Int)
  | 0 => []
  | e + 1 => if (e : Int) ∈ p then extF p e else extF p e ++ [p ++ [(e : Int)]]
theorem extF_t {p : List Int} {e : Nat} (h : (e : Int) ∈ p) : extF p (e + 1) = extF p e := if_pos h
theorem extF_f {p : List Int} {e : Nat} (h : ¬ (e : Int) ∈ p) : extF p (e + 1) = extF p e ++ [p ++ [(e : Int)]] := if_neg h
theorem extF_len {p : List Int} : ∀ {n : Nat}, (extF p n).length ≤ n
  | 0 => Nat.le_refl _
  | n + 1 => by
    have := extF_len (p := p) (n := n)
    simp only [extF]; split
    · omega
    · simp; omega
theorem extF_mem {p q : List Int} : ∀ {n : Nat}, q ∈ extF p n ↔ ∃ e : Nat, e < n ∧ ¬ (e : Int) ∈ p ∧ q = p ++ [(e : Int)]
  | 0 => by simp [extF]
  | n + 1 => by
    have ih := extF_mem (p := p) (q := q) (n := n)
    by_cases h : (n : Int) ∈ p
    · rw [extF_t h, ih]
      constructor
      · rintro ⟨e, h1, h2⟩; exact ⟨e, by omega, h2⟩
      · rintro ⟨e, h1, h2, h3⟩
        by_cases he : e = n
        · subst he; exact absurd h h2
        · exact ⟨e, by omega, h2, h3⟩
    · rw [extF_f h, List.mem_append, ih, List.mem_singleton]
      constructor
      · rintro (⟨e, h1, h2⟩ | rfl)
        · exact ⟨e, by omega, h2⟩
        · exact ⟨n, by omega, h, rfl⟩
      · rintro ⟨e, h1, h2, h3⟩
        by_cases he : e = n
        · subst he; exact .inr h3
        · exact .inl ⟨e, by omega, h2, h3⟩
def stepF (n : Nat) (ls : List (List Int)) : List (List Int) := ls.flatMap fun p => extF p n
theorem stepF_len {n : Nat} : ∀ {ls : List (List Int)}, (stepF n ls).length ≤ ls.length * n
  | [] => by simp [stepF]
  | p :: r => by
    have h1 := extF_len (p := p) (n := n)
    have h2 := stepF_len (n := n) (ls := r)
    simp only [stepF, List.flatMap_cons, List.length_append, List.length_cons] at h2 ⊢
    rw [Nat.add_mul]; omega
def iterF (n : Nat) : Nat → List (List Int)
  | 0 => [[]]
  | k + 1 => stepF n (iterF n k)
theorem iterF_len {n : Nat} (hn : n ≤ 6) : ∀ {k : Nat}, (iterF n k).length ≤ 6 ^ k
  | 0 => by simp [iterF]
  | k + 1 => by
    have h1 := stepF_len (n := n) (ls := iterF n k)
    have h2 := iterF_len hn (k := k)
    have h3 : (iterF n k).length * n ≤ 6 ^ k * 6 := Nat.mul_le_mul h2 hn
    simp only [iterF]
    rw [Nat.pow_succ]; omega
theorem iterF_len6 {n : Nat} (hn : n ≤ 6) {k : Nat} (hk : k ≤ 6) : (iterF n k).length ≤ 46656 := by
  have h1 := iterF_len hn (k := k)
  have h2 : 6 ^ k ≤ 6 ^ 6 := Nat.pow_le_pow_right (by omega) hk
  omega
/-- Those that go on from p by f elements. -/
def ordL (n : Nat) : Nat → List Int → List (List Int)
  | 0, p => [p]
  | f + 1, p => (extF p n).flatMap (ordL n f)
theorem ordL_step {n : Nat} : ∀ {f : Nat} {p : List Int}, ordL n (f + 1) p = (ordL n f p).flatMap fun q => extF q n
  | 0, p => by simp [ordL, List.flatMap_singleton']
  | f + 1, p => by
    have e : (ordL n (f + 1)) = fun q => (ordL n f q).flatMap fun q => extF q n := funext fun q => ordL_step
    show (extF p n).flatMap (ordL n (f + 1)) = ((extF p n).flatMap (ordL n f)).flatMap _
    rw [e, List.flatMap_assoc]
theorem iter_ord {n : Nat} : ∀ {k : Nat}, iterF n k = ordL n k []
  | 0 => rfl
  | k + 1 => by rw [iterF, stepF, iter_ord, ordL_step]
theorem flat_len {g : List Int → List (List Int)} {m : Nat} (h : ∀ q, (g q).length ≤ m) : ∀ {ls : List (List Int)}, (ls.flatMap g).length ≤ ls.length * m
  | [] => by simp
  | p :: r => by
    have h1 := h p
    have h2 := flat_len h (ls := r)
    simp only [List.flatMap_cons, List.length_append, List.length_cons]
    rw [Nat.add_mul]; omega
theorem ordL_len {n : Nat} (hn : n ≤ 6) : ∀ {f : Nat} {p : List Int}, (ordL n f p).length ≤ 6 ^ f
  | 0, p => by simp [ordL]
  | f + 1, p => by
    have h1 := flat_len (g := ordL n f) (m := 6 ^ f) (fun q => ordL_len hn) (ls := extF p n)
    have h2 := extF_len (p := p) (n := n)
    have h3 : (extF p n).length * 6 ^ f ≤ 6 * 6 ^ f := Nat.mul_le_mul_right _ (by omega)
    show ((extF p n).flatMap (ordL n f)).length ≤ 6 ^ (f + 1)
    rw [Nat.pow_succ]; omega
theorem ordL_len6 {n : Nat} (hn : n ≤ 6) {f : Nat} (hf : f ≤ 6) {p : List Int} : (ordL n f p).length ≤ 46656 := by
  have h1 := ordL_len hn (f := f) (p := p)
  have h2 : 6 ^ f ≤ 6 ^ 6 := Nat.pow_le_pow_right (by omega) hf
  omega
def Dist (n : Nat) (p : List Int) : Prop := p.Nodup ∧ ∀ x, x ∈ p → 0 ≤ x ∧ x < n
theorem dist_snoc {n : Nat} {p : List Int} (h : Dist n p) {e : Nat} (he : e < n) (hm : ¬ (e : Int) ∈ p) : Dist n (p ++ [(e : Int)]) := by
  refine ⟨?_, fun x hx => ?_⟩
  · rw [List.nodup_append]
    refine ⟨h.1, by simp, fun a ha b hb hab => ?_⟩
    simp only [List.mem_singleton] at hb
    subst hb; subst hab; exact hm ha
  · rw [List.mem_append, List.mem_singleton] at hx
    rcases hx with hx | rfl
    · exact h.2 x hx
    · omega
theorem ordL_dist {n : Nat} : ∀ {f : Nat} {p q : List Int}, q ∈ ordL n f p → Dist n p → q.length = p.length + f ∧ Dist n q
  | 0, p, q, h, hd => by simp only [ordL, List.mem_singleton] at h; subst h; exact ⟨rfl, hd⟩
  | f + 1, p, q, h, hd => by
    rw [ordL, List.mem_flatMap] at h
    obtain ⟨r, hr, hq⟩ := h
    obtain ⟨e, he, hm, rfl⟩ := extF_mem.1 hr
    obtain ⟨h1, h2⟩ := ordL_dist hq (dist_snoc hd he hm)
    refine ⟨?_, h2⟩
    simp only [List.length_append, List.length_cons, List.length_nil] at h1
    omega
theorem iterF_dist {n k : Nat} {q : List Int} (h : q ∈ iterF n k) : q.length = k ∧ Dist n q := by
  rw [iter_ord] at h
  have := ordL_dist h ⟨by simp, by simp⟩
  simpa using this
theorem dist_perm {n : Nat} {p : List Int} (hn : n ≤ 6) (hl : p.length = n) (hd : Dist n p) : permB p.length p = true := by
  have hx : ∀ i, i < p.length → 0 ≤ p.getD i 0 ∧ p.getD i 0 < n := fun i hi => hd.2 _ (mem_getD.2 ⟨i, hi, rfl⟩)
  refine permB_iff.2 ⟨rfl, fun i hi => ?_⟩
  rw [okAt_iff, inB_t]
  have h1 := hx i hi
  refine ⟨by omega, fun hb => ?_⟩
  obtain ⟨S, e1, e2, e3⟩ := seen_bits (xs := p) (fun j hj => by have := hx j hj; omega) (n := i) (by omega)
  obtain ⟨x, hxe⟩ := Int.eq_ofNat_of_zero_le h1.1
  rw [e1, hxe, Int.toNat_natCast, band_shr_one (by omega)] at hb
  have ht : S.testBit x = true := by
    rw [Nat.testBit_eq_decide_div_mod_eq, decide_eq_true_eq]
    omega
  obtain ⟨j, hj, hje⟩ := (e3 x).1 ht
  have hne := List.pairwise_iff_getElem.1 hd.1 j i (by omega) hi hj
  apply hne
  rw [← getD_get (by omega), ← getD_get hi, hje, hxe]
theorem iterF_perm {n : Nat} {q : List Int} (hn : n ≤ 6) (h : q ∈ iterF n n) : q.length = n ∧ permB q.length q = true := by
  have := iterF_dist h
  exact ⟨this.1, dist_perm hn this.1 this.2⟩
theorem getR_mem {ls : List (List Int)} {i : Nat} (h : i < ls.length) : ls.getD i [] ∈ ls := by
  rw [List.getD_eq_getElem?_getD, List.getElem?_eq_getElem h]; exact List.getElem_mem h
theorem take_succR {ls : List (List Int)} {i : Nat} (h : i < ls.length) : ls.take (i + 1) = ls.take i ++ [ls.getD i []] := by
  rw [List.take_add_one, List.getElem?_eq_getElem h, List.getD_eq_getElem?_getD, List.getElem?_eq_getElem h]; rfl
theorem step_take {n : Nat} {ls : List (List Int)} {i : Nat} (h : i < ls.length) : stepF n (ls.take (i + 1)) = stepF n (ls.take i) ++ extF (ls.getD i []) n := by
  rw [take_succR h, stepF, List.flatMap_append]; simp [stepF]
theorem step_bd {n : Nat} {ls : List (List Int)} {i : Nat} : (stepF n (ls.take i)).length ≤ ls.length * n := by
  have h1 := stepF_len (n := n) (ls := ls.take i)
  have h2 : (ls.take i).length ≤ ls.length := by rw [List.length_take]; omega
  have := Nat.mul_le_mul_right n h2
  omega
/-- How many orders fit, and the first one. -/
def cntO (xs : List Int) (ls : List (List Int)) : Nat := (ls.filter fun p => fitB xs p).length
theorem cntO_t {xs : List Int} {ls : List (List Int)} {i : Nat} (h : i < ls.length) (hf : fitB xs (ls.getD i []) = true) : cntO xs (ls.take (i + 1)) = cntO xs (ls.take i) + 1 := by
  rw [take_succR h, cntO, List.filter_append, List.length_append, List.filter_cons_of_pos (by exact hf)]; rfl
theorem cntO_f {xs : List Int} {ls : List (List Int)} {i : Nat} (h : i < ls.length) (hf : fitB xs (ls.getD i []) = false) : cntO xs (ls.take (i + 1)) = cntO xs (ls.take i) := by
  rw [take_succR h, cntO, List.filter_append, List.length_append, List.filter_cons_of_neg (by rw [hf]; decide)]; rfl
theorem cntO_le {xs : List Int} {ls : List (List Int)} : cntO xs ls ≤ ls.length := List.length_filter_le _ _
def cioI (n : Int) (xs : List Int) : Int := if famB n xs = true then (cntO xs (iterF n.toNat n.toNat) : Int) else -1
def ioO (n : Int) (xs : List Int) : Option (List Int) := if famB n xs = true then (iterF n.toNat n.toNat).find? (fun p => fitB xs p) else none
theorem find_at {xs : List Int} {ls : List (List Int)} {i : Nat} (h : i < ls.length) (hf : fitB xs (ls.getD i []) = true) (hn : ∀ j, j < i → fitB xs (ls.getD j []) = false) : ls.find? (fun p => fitB xs p) = some (ls.getD i []) := by
  rw [List.find?_eq_some_iff_getElem]
  refine ⟨hf, i, h, ?_, fun j hj => ?_⟩
  · rw [List.getD_eq_getElem?_getD, List.getElem?_eq_getElem h]; rfl
  · have := hn j hj
    rw [List.getD_eq_getElem?_getD, List.getElem?_eq_getElem (by omega)] at this
    simpa using this
theorem find_no {xs : List Int} {ls : List (List Int)} (hn : ∀ j, j < ls.length → fitB xs (ls.getD j []) = false) : ls.find? (fun p => fitB xs p) = none := by
  rw [List.find?_eq_none]
  intro p hp
  obtain ⟨j, hj, rfl⟩ := List.getElem_of_mem hp
  have := hn j hj
  rw [List.getD_eq_getElem?_getD, List.getElem?_eq_getElem hj] at this
  simpa using this
def opL' : Option (List Int) → List Int
  | some x => x
  | none => []
def opB' : Option (List Int) → Bool
  | some _ => true
  | none => false
theorem ioL_len {n : Int} {xs : List Int} : (opL' (ioO n xs)).length ≤ 6 := by
  unfold ioO
  split
  · rename_i h
    have hb := (famB_bd h).1
    cases hf : (iterF n.toNat n.toNat).find? (fun p => fitB xs p) with
    | none => simp [opL']
    | some p =>
      have hm := List.mem_of_find?_eq_some hf
      have := (iterF_dist hm).1
      simp only [opL']; omega
  · simp [opL']
theorem both {p X : Prop} (h : X) : (p → X) ∧ (¬ p → X) := ⟨fun _ => h, fun _ => h⟩

/-- n numbers from k on. -/
def iotaI (k : Int) (n : Nat) : List Int := (List.range n).map fun (i : Nat) => k + (i : Int)
theorem iotaI_len {k : Int} {n : Nat} : (iotaI k n).length = n := by simp [iotaI]
theorem iotaI_get {k : Int} {n i : Nat} (h : i < n) : (iotaI k n).getD i 0 = k + i := by
  rw [List.getD_eq_getElem?_getD, iotaI, List.getElem?_map, List.getElem?_range h]; rfl
theorem iotaI_succ {k : Int} {n : Nat} : iotaI k (n + 1) = iotaI k n ++ [k + n] := by
  simp [iotaI, List.range_succ]
theorem mark_step {xs : List Int} {k : Int} {i : Nat} (h : i < xs.length) : (iotaI k i ++ xs.drop i).set i (k + i) = iotaI k (i + 1) ++ xs.drop (i + 1) := by
  rw [List.set_append_right _ _ (by rw [iotaI_len]; exact Nat.le_refl _), iotaI_len, Nat.sub_self, List.drop_eq_getElem_cons h, List.set_cons_zero, iotaI_succ, List.append_assoc]; rfl
/-- What is read back: the next number, if they are all there. -/
def heldI (xs : List Int) (k : Int) : Int := if xs = iotaI k xs.length then k + xs.length else -1
theorem heldI_f {xs : List Int} {k : Int} {i : Nat} (hi : i < xs.length) (h : ¬ xs.getD i 0 = k + i) : heldI xs k = -1 := by
  rw [heldI, if_neg]
  intro e
  have := iotaI_get (k := k) (n := xs.length) hi
  rw [← e] at this
  exact h this
theorem heldI_t {xs : List Int} {k : Int} (h : ∀ i, i < xs.length → xs.getD i 0 = k + i) : heldI xs k = k + xs.length := by
  rw [heldI, if_pos]
  exact eq_of_get iotaI_len.symm fun i hi => by rw [h i hi, iotaI_get hi]
theorem heldI_iota {k : Int} {n : Nat} : heldI (iotaI k n) k = k + n := by rw [heldI, iotaI_len, if_pos rfl]

theorem is_laws_eqIntS : FnIs Try.prog 13 26 [.tmp 4] (Try.f13.body.getD .skip) := ⟨⟨Try.f13, by kernel_rfl, by kernel_rfl, by kernel_rfl, by kernel_rfl⟩, by kernel_rfl, by kernel_rfl⟩
def G_laws_eqIntS : Gm := Gm.none
theorem G_laws_eqIntS_ok : G_laws_eqIntS.ok Try.prog := Gm.none_ok
set_option maxHeartbeats 1000000 in
set_option maxRecDepth 100000 in
theorem runs_laws_eqIntS (xs ys : List Int) : ARuns Try.prog 13 [.sl none (.ints .i64 xs), .sl none (.ints .i64 ys)] [] (.bool (decide (xs = ys))) [] := by
  refine ARuns_bc G_laws_eqIntS_ok is_laws_eqIntS (by simp) fun hl hlB => ?_
  simp only [kcode_at, kreg_at, bc_skip, bc_seq, bc_cond, bc_block, bc_exit, bc_ret, bc_region, lkX_cons, acond_tmp, aCase_t, aCase_f, aCase_b, afin_nil, cvE_some, resL, resV, resC, cv, cvL, pack, entryE, inPrm, Option.getD_some, acall_clo, add_sp, add_lend, kcall_nil, selOf, selC, selA, inArgs, inA, inL, okA, okL, okBx, okC, outA, outL, outU, outB, deep, deepL, boxIds, AV.bid, List.map_nil, List.map_cons, List.all_nil, List.all_cons, BEq.rfl, Bool.and_true, Bool.true_and, List.append_nil, aops_nil, aops_plain, aops_guard, kont_at, yes_at, no_at, aop_move, aop_assign, aop_pick, aop_alloc, aop_box, aop_build, aop_buildSlice, aop_load, aop_store, aop_nilCheck, aop_binOp, aop_unOp, aop_convert, aop_fieldAddr, aop_indexAddr, aop_slice, aop_extract, aop_makeSlice, aop_len, aop_max, aMax_int, slTy2, SC0, aop_append, aop_call, evalE, getE, putE, getB, setB, St.put, setsB, nth, AV.ofV, AV.blk, AV.bid, AV.one, SC.len, SC.get, List.length_nil, List.length_cons, Nat.reduceEqDiff, Nat.reduceAdd, ↓reduceIte, true_and, and_true, Bool.true_eq_false, Bool.false_eq_true, false_imp_iff, true_imp_iff, decide_eq_true_eq, Bool.not_eq_true', Bool.not_eq_false', decide_eq_false_iff_not, Option.isSome, List.nil_append, List.cons_append, aGuardO_some, aGuard_tt, aGuard_tf, aGuard_ft, aGuard_ff, aGuard_tb, aGuard_fb, aGuard_ts, aGuard_fs, aPick_b, aPick_t, aPick_f, aAlloc_one, aAlloc_flat, aBox_some, aBuild_flat, aInt_add, aBin_add, aInt_sub, aBin_sub, aInt_mul, aBin_mul, aInt_quo, aBin_quo, aInt_rem, aBin_rem, aInt_and, aBin_and, aInt_or, aBin_or, aInt_xor, aBin_xor, aInt_andNot, aBin_andNot, aInt_eql, aBin_eql, aInt_neq, aBin_neq, aInt_lss, aBin_lss, aInt_leq, aBin_leq, aInt_gtr, aBin_gtr, aInt_geq, aBin_geq, aBin_shl, aBin_shr, aShift_shl, aShift_shr, aBin_be1, aBin_bn1, aBin_be2, aBin_bn2, aBin_be3, aBin_bn3, aBin_be4, aBin_bn4, aBin_be5, aBin_bn5, aBin_be6, aBin_bn6, aBin_be7, aBin_bn7, aBin_be8, aBin_bn8, aBin_be9, aBin_bn9, aUn_b, aUn_t, aUn_f, aUn_i, aNil_ptr, aNil_pv, aConv_int, aField_ptr, aField_pv, aIdx_sl, aIdx_prm, aIdx_row, aIdx_drow, aMake_i, aMake_s, aExtr_tup, aLen_ref, aLen_nil, aLen_sl, aLen_prm, aLen_str, aBuildL_some, aBuildS_some, aLoad_1b, aLoad_1d, aLoad_fb, aLoad_fd, aLoad_1p, aLoad_fp, aLoad_ep, aLoad_rr, aLoad_rd, aStore_1, aStore_f, aStore_r, aApp_some, aAppend_nil, aAppend_ref, aSlice_h, aSlice_l, aSlice_lh, aop_slice3, aSlice3_r, aop_field, aFld_agg, aBinW_f, aBinW_t, aWrap_mul, aWrap_add, isW_tmp, isW_mulc, isW_addc, isW_sub, isW_quo, isW_rem, isW_and, isW_or, isW_xor, isW_andNot, isW_shl, isW_shr, isW_eql, isW_neq, isW_lss, isW_leq, isW_gtr, isW_geq, Int.reduceLT, aBinW_dF, aBinW_dT, bc_draw, kregD_at, aopsD_nil, aopsD_plain, aopsD_guard, kontD_at, contD_at, yesD_at, noD_at, splD_bool, splD_undef, splD_skip, splD_int, splD_tt, splD_ff, splD_str, splD_nil, splD_sl, splD_prm, splD_ref, splD_ptr, splD_rp, splD_ep, splD_pv, splD_agg, splD_tup, splD_clo, gD_tt, gD_tf, gD_ft, gD_ff, gD_ts, gD_fs, slotO_some, addTr_nil, addTr_cons, memQ_nil, memQ_cons, clash_nil, clash_cons, regC_none, regC_nil, regC_cons, regR_nil, regR_cons, Int.toNat_zero, Int.toNat_one, rng0, rng1, rng2, rng3, rng4, SC.take, SC.drop, mp_nil, acond_ct, acond_cf, mp_one0, mp_one1, mp_one2, mp_one3, kcall_one, liveB_row, liveB_box, idx, cont, still, dies, lend, lendA, lendDies, snocs, SC.snoc, SC.app, meet, AV.cells, fillA, List.getD_cons_zero, List.getD_cons_succ, List.set_cons_zero, List.set_cons_succ, List.length_singleton, Nat.le_refl, Nat.lt_irrefl, Nat.reduceLT, Nat.reduceLeDiff, Option.map_some, Option.map_none, List.flatMap_nil, List.flatMap_cons, Nat.zero_add, BEq.rfl, kcall_two, mp_two0, mp_two1, mp_two2, mp_two3, mp_two4, aop_makeFunc, plainA, Bool.true_and, sl3, ty3, un3, sl49, ty49, un49, sl71, ty71, un71, sl69, ty69, un69, sl5, ty5, un5, sl2, ty2, un2, sl21, ty21, un21, sl4, ty4, un4, sl9, un9, sl22, ty22, un22, sl31, ty31, un31, sl36, sl53, ty38, sl38, ty41, sl41, inR64, inRu64, inRu32, Try.f13]
  simp only [lensA, lenA, lenSC] at hl
  refine ⟨fun h => ?_, fun h => ?_⟩
  · congr 1; symm; simp; intro e; rw [e] at h; exact h rfl
  replace h : xs.length = ys.length := by omega
  refine bc_loop (fun i : Nat => i ≤ xs.length ∧ ∀ k, k < i → xs.getD k 0 = ys.getD k 0)
    (fun i => ⟨[(0, .prm 0 (.ints .i64 xs)), (1, .prm 1 (.ints .i64 ys)), (5, .int .i64 i)], []⟩) (fun i => xs.length - i)
    [0, 1, 5] [] 0 rfl rfl (by simp) fun i ⟨h1, h2⟩ => ?_
  simp only [kcode_at, kreg_at, bc_skip, bc_seq, bc_cond, bc_block, bc_exit, bc_ret, bc_region, lkX_cons, acond_tmp, aCase_t, aCase_f, aCase_b, afin_nil, cvE_some, resL, resV, resC, cv, cvL, pack, entryE, inPrm, Option.getD_some, acall_clo, add_sp, add_lend, kcall_nil, selOf, selC, selA, inArgs, inA, inL, okA, okL, okBx, okC, outA, outL, outU, outB, deep, deepL, boxIds, AV.bid, List.map_nil, List.map_cons, List.all_nil, List.all_cons, BEq.rfl, Bool.and_true, Bool.true_and, List.append_nil, aops_nil, aops_plain, aops_guard, kont_at, yes_at, no_at, aop_move, aop_assign, aop_pick, aop_alloc, aop_box, aop_build, aop_buildSlice, aop_load, aop_store, aop_nilCheck, aop_binOp, aop_unOp, aop_convert, aop_fieldAddr, aop_indexAddr, aop_slice, aop_extract, aop_makeSlice, aop_len, aop_max, aMax_int, slTy2, SC0, aop_append, aop_call, evalE, getE, putE, getB, setB, St.put, setsB, nth, AV.ofV, AV.blk, AV.bid, AV.one, SC.len, SC.get, List.length_nil, List.length_cons, Nat.reduceEqDiff, Nat.reduceAdd, ↓reduceIte, true_and, and_true, Bool.true_eq_false, Bool.false_eq_true, false_imp_iff, true_imp_iff, decide_eq_true_eq, Bool.not_eq_true', Bool.not_eq_false', decide_eq_false_iff_not, Option.isSome, List.nil_append, List.cons_append, aGuardO_some, aGuard_tt, aGuard_tf, aGuard_ft, aGuard_ff, aGuard_tb, aGuard_fb, aGuard_ts, aGuard_fs, aPick_b, aPick_t, aPick_f, aAlloc_one, aAlloc_flat, aBox_some, aBuild_flat, aInt_add, aBin_add, aInt_sub, aBin_sub, aInt_mul, aBin_mul, aInt_quo, aBin_quo, aInt_rem, aBin_rem, aInt_and, aBin_and, aInt_or, aBin_or, aInt_xor, aBin_xor, aInt_andNot, aBin_andNot, aInt_eql, aBin_eql, aInt_neq, aBin_neq, aInt_lss, aBin_lss, aInt_leq, aBin_leq, aInt_gtr, aBin_gtr, aInt_geq, aBin_geq, aBin_shl, aBin_shr, aShift_shl, aShift_shr, aBin_be1, aBin_bn1, aBin_be2, aBin_bn2, aBin_be3, aBin_bn3, aBin_be4, aBin_bn4, aBin_be5, aBin_bn5, aBin_be6, aBin_bn6, aBin_be7, aBin_bn7, aBin_be8, aBin_bn8, aBin_be9, aBin_bn9, aUn_b, aUn_t, aUn_f, aUn_i, aNil_ptr, aNil_pv, aConv_int, aField_ptr, aField_pv, aIdx_sl, aIdx_prm, aIdx_row, aIdx_drow, aMake_i, aMake_s, aExtr_tup, aLen_ref, aLen_nil, aLen_sl, aLen_prm, aLen_str, aBuildL_some, aBuildS_some, aLoad_1b, aLoad_1d, aLoad_fb, aLoad_fd, aLoad_1p, aLoad_fp, aLoad_ep, aLoad_rr, aLoad_rd, aStore_1, aStore_f, aStore_r, aApp_some, aAppend_nil, aAppend_ref, aSlice_h, aSlice_l, aSlice_lh, aop_slice3, aSlice3_r, aop_field, aFld_agg, aBinW_f, aBinW_t, aWrap_mul, aWrap_add, isW_tmp, isW_mulc, isW_addc, isW_sub, isW_quo, isW_rem, isW_and, isW_or, isW_xor, isW_andNot, isW_shl, isW_shr, isW_eql, isW_neq, isW_lss, isW_leq, isW_gtr, isW_geq, Int.reduceLT, aBinW_dF, aBinW_dT, bc_draw, kregD_at, aopsD_nil, aopsD_plain, aopsD_guard, kontD_at, contD_at, yesD_at, noD_at, splD_bool, splD_undef, splD_skip, splD_int, splD_tt, splD_ff, splD_str, splD_nil, splD_sl, splD_prm, splD_ref, splD_ptr, splD_rp, splD_ep, splD_pv, splD_agg, splD_tup, splD_clo, gD_tt, gD_tf, gD_ft, gD_ff, gD_ts, gD_fs, slotO_some, addTr_nil, addTr_cons, memQ_nil, memQ_cons, clash_nil, clash_cons, regC_none, regC_nil, regC_cons, regR_nil, regR_cons, Int.toNat_zero, Int.toNat_one, rng0, rng1, rng2, rng3, rng4, SC.take, SC.drop, mp_nil, acond_ct, acond_cf, mp_one0, mp_one1, mp_one2, mp_one3, kcall_one, liveB_row, liveB_box, idx, cont, still, dies, lend, lendA, lendDies, snocs, SC.snoc, SC.app, meet, AV.cells, fillA, List.getD_cons_zero, List.getD_cons_succ, List.set_cons_zero, List.set_cons_succ, List.length_singleton, Nat.le_refl, Nat.lt_irrefl, Nat.reduceLT, Nat.reduceLeDiff, Option.map_some, Option.map_none, List.flatMap_nil, List.flatMap_cons, Nat.zero_add, BEq.rfl, kcall_two, mp_two0, mp_two1, mp_two2, mp_two3, mp_two4, aop_makeFunc, plainA, Bool.true_and, sl3, ty3, un3, sl49, ty49, un49, sl71, ty71, un71, sl69, ty69, un69, sl5, ty5, un5, sl2, ty2, un2, sl21, ty21, un21, sl4, ty4, un4, sl9, un9, sl22, ty22, un22, sl31, ty31, un31, sl36, sl53, ty38, sl38, ty41, sl41, inR64, inRu64, inRu32, Int.toNat_natCast]
  refine ⟨fun hi => ⟨by omega, by omega, fun hne => ?_, fun he => ⟨by omega, ?_⟩⟩, fun hi => ?_⟩
  · congr 1; symm; simp; intro e; rw [e] at hne; exact hne rfl
  · refine klp_of (i + 1) rfl ⟨by omega, fun k hk => ?_⟩ (by omega)
    by_cases e : k = i
    · rw [e]; exact he
    · exact h2 k (by omega)
  · congr 1; symm; simp
    exact eq_of_get h fun k hk => h2 k (by omega)
def lend_laws_eqIntS : List Nat := []
def sp_laws_eqIntS : List AV → List Bx → (AV → List Bx → Prop) → Prop
  | [.sl none (.ints .i64 xs), .sl none (.ints .i64 ys)], [], K => K (.bool (decide (xs = ys))) []
  | _, _, _ => False
theorem at_laws_eqIntS {xs ys : List Int} {K : AV → List Bx → Prop} : sp_laws_eqIntS [.sl none (.ints .i64 xs), .sl none (.ints .i64 ys)] [] K = (K (.bool (decide (xs = ys))) []) := id rfl
theorem ok_laws_eqIntS : ∀ args giv K, sp_laws_eqIntS args giv K → ∃ r outs, ARuns Try.prog 13 args giv r outs ∧ K r outs := by
  intro args giv K hk
  unfold sp_laws_eqIntS at hk
  split at hk
  · exact ⟨_, _, runs_laws_eqIntS _ _ , hk⟩
  · exact hk.elim
theorem is_laws_markIntS : FnIs Try.prog 16 19 [.tmp 4] (Try.f16.body.getD .skip) := ⟨⟨Try.f16, by kernel_rfl, by kernel_rfl, by kernel_rfl, by kernel_rfl⟩, by kernel_rfl, by kernel_rfl⟩
def G_laws_markIntS : Gm := Gm.none
theorem G_laws_markIntS_ok : G_laws_markIntS.ok Try.prog := Gm.none_ok
set_option maxHeartbeats 1000000 in
set_option maxRecDepth 100000 in
theorem runs_laws_markIntS (k : Int) (e : TypeId) (n : Nat) (xs : List Int) (hp1 : n = xs.length) (hp2 : 0 ≤ k ∧ k + xs.length ≤ 9223372036854775807) : ARuns Try.prog 16 [.ref 0 n, .int .i64 k] [.row e (.ints .i64 xs)] (.int .i64 (k + xs.length)) [.row e (.ints .i64 (iotaI k xs.length))] := by
  refine ARuns_bc G_laws_markIntS_ok is_laws_markIntS (by simp) fun hl hlB => ?_
  simp only [kcode_at, kreg_at, bc_skip, bc_seq, bc_cond, bc_block, bc_exit, bc_ret, bc_region, lkX_cons, acond_tmp, aCase_t, aCase_f, aCase_b, afin_nil, cvE_some, resL, resV, resC, cv, cvL, pack, entryE, inPrm, Option.getD_some, acall_clo, add_sp, add_lend, kcall_nil, selOf, selC, selA, inArgs, inA, inL, okA, okL, okBx, okC, outA, outL, outU, outB, deep, deepL, boxIds, AV.bid, List.map_nil, List.map_cons, List.all_nil, List.all_cons, BEq.rfl, Bool.and_true, Bool.true_and, List.append_nil, aops_nil, aops_plain, aops_guard, kont_at, yes_at, no_at, aop_move, aop_assign, aop_pick, aop_alloc, aop_box, aop_build, aop_buildSlice, aop_load, aop_store, aop_nilCheck, aop_binOp, aop_unOp, aop_convert, aop_fieldAddr, aop_indexAddr, aop_slice, aop_extract, aop_makeSlice, aop_len, aop_max, aMax_int, slTy2, SC0, aop_append, aop_call, evalE, getE, putE, getB, setB, St.put, setsB, nth, AV.ofV, AV.blk, AV.bid, AV.one, SC.len, SC.get, List.length_nil, List.length_cons, Nat.reduceEqDiff, Nat.reduceAdd, ↓reduceIte, true_and, and_true, Bool.true_eq_false, Bool.false_eq_true, false_imp_iff, true_imp_iff, decide_eq_true_eq, Bool.not_eq_true', Bool.not_eq_false', decide_eq_false_iff_not, Option.isSome, List.nil_append, List.cons_append, aGuardO_some, aGuard_tt, aGuard_tf, aGuard_ft, aGuard_ff, aGuard_tb, aGuard_fb, aGuard_ts, aGuard_fs, aPick_b, aPick_t, aPick_f, aAlloc_one, aAlloc_flat, aBox_some, aBuild_flat, aInt_add, aBin_add, aInt_sub, aBin_sub, aInt_mul, aBin_mul, aInt_quo, aBin_quo, aInt_rem, aBin_rem, aInt_and, aBin_and, aInt_or, aBin_or, aInt_xor, aBin_xor, aInt_andNot, aBin_andNot, aInt_eql, aBin_eql, aInt_neq, aBin_neq, aInt_lss, aBin_lss, aInt_leq, aBin_leq, aInt_gtr, aBin_gtr, aInt_geq, aBin_geq, aBin_shl, aBin_shr, aShift_shl, aShift_shr, aBin_be1, aBin_bn1, aBin_be2, aBin_bn2, aBin_be3, aBin_bn3, aBin_be4, aBin_bn4, aBin_be5, aBin_bn5, aBin_be6, aBin_bn6, aBin_be7, aBin_bn7, aBin_be8, aBin_bn8, aBin_be9, aBin_bn9, aUn_b, aUn_t, aUn_f, aUn_i, aNil_ptr, aNil_pv, aConv_int, aField_ptr, aField_pv, aIdx_sl, aIdx_prm, aIdx_row, aIdx_drow, aMake_i, aMake_s, aExtr_tup, aLen_ref, aLen_nil, aLen_sl, aLen_prm, aLen_str, aBuildL_some, aBuildS_some, aLoad_1b, aLoad_1d, aLoad_fb, aLoad_fd, aLoad_1p, aLoad_fp, aLoad_ep, aLoad_rr, aLoad_rd, aStore_1, aStore_f, aStore_r, aApp_some, aAppend_nil, aAppend_ref, aSlice_h, aSlice_l, aSlice_lh, aop_slice3, aSlice3_r, aop_field, aFld_agg, aBinW_f, aBinW_t, aWrap_mul, aWrap_add, isW_tmp, isW_mulc, isW_addc, isW_sub, isW_quo, isW_rem, isW_and, isW_or, isW_xor, isW_andNot, isW_shl, isW_shr, isW_eql, isW_neq, isW_lss, isW_leq, isW_gtr, isW_geq, Int.reduceLT, aBinW_dF, aBinW_dT, bc_draw, kregD_at, aopsD_nil, aopsD_plain, aopsD_guard, kontD_at, contD_at, yesD_at, noD_at, splD_bool, splD_undef, splD_skip, splD_int, splD_tt, splD_ff, splD_str, splD_nil, splD_sl, splD_prm, splD_ref, splD_ptr, splD_rp, splD_ep, splD_pv, splD_agg, splD_tup, splD_clo, gD_tt, gD_tf, gD_ft, gD_ff, gD_ts, gD_fs, slotO_some, addTr_nil, addTr_cons, memQ_nil, memQ_cons, clash_nil, clash_cons, regC_none, regC_nil, regC_cons, regR_nil, regR_cons, Int.toNat_zero, Int.toNat_one, rng0, rng1, rng2, rng3, rng4, SC.take, SC.drop, mp_nil, acond_ct, acond_cf, mp_one0, mp_one1, mp_one2, mp_one3, kcall_one, liveB_row, liveB_box, idx, cont, still, dies, lend, lendA, lendDies, snocs, SC.snoc, SC.app, meet, AV.cells, fillA, List.getD_cons_zero, List.getD_cons_succ, List.set_cons_zero, List.set_cons_succ, List.length_singleton, Nat.le_refl, Nat.lt_irrefl, Nat.reduceLT, Nat.reduceLeDiff, Option.map_some, Option.map_none, List.flatMap_nil, List.flatMap_cons, Nat.zero_add, BEq.rfl, kcall_two, mp_two0, mp_two1, mp_two2, mp_two3, mp_two4, aop_makeFunc, plainA, Bool.true_and, sl3, ty3, un3, sl49, ty49, un49, sl71, ty71, un71, sl69, ty69, un69, sl5, ty5, un5, sl2, ty2, un2, sl21, ty21, un21, sl4, ty4, un4, sl9, un9, sl22, ty22, un22, sl31, ty31, un31, sl36, sl53, ty38, sl38, ty41, sl41, inR64, inRu64, inRu32, Try.f16]
  subst hp1
  refine bc_loop (fun i : Nat => i ≤ xs.length)
    (fun i => ⟨[(0, .ref 0 xs.length), (1, .int .i64 (k + i)), (5, .int .i64 i)], [.row e (.ints .i64 (iotaI k i ++ xs.drop i))]⟩) (fun i => xs.length - i)
    [0, 1, 5] [0] 0 rfl (by simp [St.conv, St.bf, getE, putE, getB, cv, cvL, cvB, idx, still, pack, lifts, liftOne, cellsOfB, setB]; simp [iotaI]) (by simp) fun i h1 => ?_
  simp only [kcode_at, kreg_at, bc_skip, bc_seq, bc_cond, bc_block, bc_exit, bc_ret, bc_region, lkX_cons, acond_tmp, aCase_t, aCase_f, aCase_b, afin_nil, cvE_some, resL, resV, resC, cv, cvL, pack, entryE, inPrm, Option.getD_some, acall_clo, add_sp, add_lend, kcall_nil, selOf, selC, selA, inArgs, inA, inL, okA, okL, okBx, okC, outA, outL, outU, outB, deep, deepL, boxIds, AV.bid, List.map_nil, List.map_cons, List.all_nil, List.all_cons, BEq.rfl, Bool.and_true, Bool.true_and, List.append_nil, aops_nil, aops_plain, aops_guard, kont_at, yes_at, no_at, aop_move, aop_assign, aop_pick, aop_alloc, aop_box, aop_build, aop_buildSlice, aop_load, aop_store, aop_nilCheck, aop_binOp, aop_unOp, aop_convert, aop_fieldAddr, aop_indexAddr, aop_slice, aop_extract, aop_makeSlice, aop_len, aop_max, aMax_int, slTy2, SC0, aop_append, aop_call, evalE, getE, putE, getB, setB, St.put, setsB, nth, AV.ofV, AV.blk, AV.bid, AV.one, SC.len, SC.get, List.length_nil, List.length_cons, Nat.reduceEqDiff, Nat.reduceAdd, ↓reduceIte, true_and, and_true, Bool.true_eq_false, Bool.false_eq_true, false_imp_iff, true_imp_iff, decide_eq_true_eq, Bool.not_eq_true', Bool.not_eq_false', decide_eq_false_iff_not, Option.isSome, List.nil_append, List.cons_append, aGuardO_some, aGuard_tt, aGuard_tf, aGuard_ft, aGuard_ff, aGuard_tb, aGuard_fb, aGuard_ts, aGuard_fs, aPick_b, aPick_t, aPick_f, aAlloc_one, aAlloc_flat, aBox_some, aBuild_flat, aInt_add, aBin_add, aInt_sub, aBin_sub, aInt_mul, aBin_mul, aInt_quo, aBin_quo, aInt_rem, aBin_rem, aInt_and, aBin_and, aInt_or, aBin_or, aInt_xor, aBin_xor, aInt_andNot, aBin_andNot, aInt_eql, aBin_eql, aInt_neq, aBin_neq, aInt_lss, aBin_lss, aInt_leq, aBin_leq, aInt_gtr, aBin_gtr, aInt_geq, aBin_geq, aBin_shl, aBin_shr, aShift_shl, aShift_shr, aBin_be1, aBin_bn1, aBin_be2, aBin_bn2, aBin_be3, aBin_bn3, aBin_be4, aBin_bn4, aBin_be5, aBin_bn5, aBin_be6, aBin_bn6, aBin_be7, aBin_bn7, aBin_be8, aBin_bn8, aBin_be9, aBin_bn9, aUn_b, aUn_t, aUn_f, aUn_i, aNil_ptr, aNil_pv, aConv_int, aField_ptr, aField_pv, aIdx_sl, aIdx_prm, aIdx_row, aIdx_drow, aMake_i, aMake_s, aExtr_tup, aLen_ref, aLen_nil, aLen_sl, aLen_prm, aLen_str, aBuildL_some, aBuildS_some, aLoad_1b, aLoad_1d, aLoad_fb, aLoad_fd, aLoad_1p, aLoad_fp, aLoad_ep, aLoad_rr, aLoad_rd, aStore_1, aStore_f, aStore_r, aApp_some, aAppend_nil, aAppend_ref, aSlice_h, aSlice_l, aSlice_lh, aop_slice3, aSlice3_r, aop_field, aFld_agg, aBinW_f, aBinW_t, aWrap_mul, aWrap_add, isW_tmp, isW_mulc, isW_addc, isW_sub, isW_quo, isW_rem, isW_and, isW_or, isW_xor, isW_andNot, isW_shl, isW_shr, isW_eql, isW_neq, isW_lss, isW_leq, isW_gtr, isW_geq, Int.reduceLT, aBinW_dF, aBinW_dT, bc_draw, kregD_at, aopsD_nil, aopsD_plain, aopsD_guard, kontD_at, contD_at, yesD_at, noD_at, splD_bool, splD_undef, splD_skip, splD_int, splD_tt, splD_ff, splD_str, splD_nil, splD_sl, splD_prm, splD_ref, splD_ptr, splD_rp, splD_ep, splD_pv, splD_agg, splD_tup, splD_clo, gD_tt, gD_tf, gD_ft, gD_ff, gD_ts, gD_fs, slotO_some, addTr_nil, addTr_cons, memQ_nil, memQ_cons, clash_nil, clash_cons, regC_none, regC_nil, regC_cons, regR_nil, regR_cons, Int.toNat_zero, Int.toNat_one, rng0, rng1, rng2, rng3, rng4, SC.take, SC.drop, mp_nil, acond_ct, acond_cf, mp_one0, mp_one1, mp_one2, mp_one3, kcall_one, liveB_row, liveB_box, idx, cont, still, dies, lend, lendA, lendDies, snocs, SC.snoc, SC.app, meet, AV.cells, fillA, List.getD_cons_zero, List.getD_cons_succ, List.set_cons_zero, List.set_cons_succ, List.length_singleton, Nat.le_refl, Nat.lt_irrefl, Nat.reduceLT, Nat.reduceLeDiff, Option.map_some, Option.map_none, List.flatMap_nil, List.flatMap_cons, Nat.zero_add, BEq.rfl, kcall_two, mp_two0, mp_two1, mp_two2, mp_two3, mp_two4, aop_makeFunc, plainA, Bool.true_and, sl3, ty3, un3, sl49, ty49, un49, sl71, ty71, un71, sl69, ty69, un69, sl5, ty5, un5, sl2, ty2, un2, sl21, ty21, un21, sl4, ty4, un4, sl9, un9, sl22, ty22, un22, sl31, ty31, un31, sl36, sl53, ty38, sl38, ty41, sl41, inR64, inRu64, inRu32, Int.toNat_natCast]
  have el : (iotaI k i ++ xs.drop i).length = xs.length := by simp [iotaI_len]; omega
  refine ⟨fun hi => ⟨⟨el, by omega, by omega⟩, ⟨el, by omega⟩, by omega, by omega, ?_⟩, fun hi => ?_⟩
  · refine klp_of (i + 1) ?_ (by omega) (by omega)
    have := mark_step (k := k) (xs := xs) (i := i) (by omega)
    rw [this]
    simp [St.conv, St.bf, getE, putE, getB, cv, cvL, cvB, idx, still, pack, lifts, liftOne, cellsOfB, setB]
    omega
  · have : i = xs.length := by omega
    subst this
    refine afin_of [0] rfl rfl (by simp [St.conv, St.bf, getE, putE, getB, cv, cvL, cvB, idx, still, pack, lifts, liftOne, cellsOfB, setB]) (by simp [St.conv, St.bf, getE, putE, getB, cv, cvL, cvB, idx, still, pack, lifts, liftOne, cellsOfB, setB])
def lend_laws_markIntS : List Nat := [0]
def sp_laws_markIntS : List AV → List Bx → (AV → List Bx → Prop) → Prop
  | [.ref 0 n, .int .i64 k], [.row e (.ints .i64 xs)], K => (n = xs.length) ∧ (0 ≤ k ∧ k + xs.length ≤ 9223372036854775807) ∧ K (.int .i64 (k + xs.length)) [.row e (.ints .i64 (iotaI k xs.length))]
  | _, _, _ => False
theorem at_laws_markIntS {k : Int} {e : TypeId} {n : Nat} {xs : List Int} {K : AV → List Bx → Prop} : sp_laws_markIntS [.ref 0 n, .int .i64 k] [.row e (.ints .i64 xs)] K = ((n = xs.length) ∧ (0 ≤ k ∧ k + xs.length ≤ 9223372036854775807) ∧ K (.int .i64 (k + xs.length)) [.row e (.ints .i64 (iotaI k xs.length))]) := id rfl
theorem ok_laws_markIntS : ∀ args giv K, sp_laws_markIntS args giv K → ∃ r outs, ARuns Try.prog 16 args giv r outs ∧ K r outs := by
  intro args giv K hk
  unfold sp_laws_markIntS at hk
  split at hk
  · obtain ⟨hp1, hp2, hk⟩ := hk; exact ⟨_, _, runs_laws_markIntS _ _ _ _ hp1 hp2, hk⟩
  · exact hk.elim
theorem is_laws_heldIntS : FnIs Try.prog 17 21 [.tmp 4] (Try.f17.body.getD .skip) := ⟨⟨Try.f17, by kernel_rfl, by kernel_rfl, by kernel_rfl, by kernel_rfl⟩, by kernel_rfl, by kernel_rfl⟩
def G_laws_heldIntS : Gm := Gm.none
theorem G_laws_heldIntS_ok : G_laws_heldIntS.ok Try.prog := Gm.none_ok
set_option maxHeartbeats 1000000 in
set_option maxRecDepth 100000 in
theorem runs_laws_heldIntS (xs : List Int) (k : Int) (hp1 : 0 ≤ k ∧ k + xs.length ≤ 9223372036854775807) : ARuns Try.prog 17 [.sl none (.ints .i64 xs), .int .i64 k] [] (.int .i64 (heldI xs k)) [] := by
  refine ARuns_bc G_laws_heldIntS_ok is_laws_heldIntS (by simp) fun hl hlB => ?_
  simp only [kcode_at, kreg_at, bc_skip, bc_seq, bc_cond, bc_block, bc_exit, bc_ret, bc_region, lkX_cons, acond_tmp, aCase_t, aCase_f, aCase_b, afin_nil, cvE_some, resL, resV, resC, cv, cvL, pack, entryE, inPrm, Option.getD_some, acall_clo, add_sp, add_lend, kcall_nil, selOf, selC, selA, inArgs, inA, inL, okA, okL, okBx, okC, outA, outL, outU, outB, deep, deepL, boxIds, AV.bid, List.map_nil, List.map_cons, List.all_nil, List.all_cons, BEq.rfl, Bool.and_true, Bool.true_and, List.append_nil, aops_nil, aops_plain, aops_guard, kont_at, yes_at, no_at, aop_move, aop_assign, aop_pick, aop_alloc, aop_box, aop_build, aop_buildSlice, aop_load, aop_store, aop_nilCheck, aop_binOp, aop_unOp, aop_convert, aop_fieldAddr, aop_indexAddr, aop_slice, aop_extract, aop_makeSlice, aop_len, aop_max, aMax_int, slTy2, SC0, aop_append, aop_call, evalE, getE, putE, getB, setB, St.put, setsB, nth, AV.ofV, AV.blk, AV.bid, AV.one, SC.len, SC.get, List.length_nil, List.length_cons, Nat.reduceEqDiff, Nat.reduceAdd, ↓reduceIte, true_and, and_true, Bool.true_eq_false, Bool.false_eq_true, false_imp_iff, true_imp_iff, decide_eq_true_eq, Bool.not_eq_true', Bool.not_eq_false', decide_eq_false_iff_not, Option.isSome, List.nil_append, List.cons_append, aGuardO_some, aGuard_tt, aGuard_tf, aGuard_ft, aGuard_ff, aGuard_tb, aGuard_fb, aGuard_ts, aGuard_fs, aPick_b, aPick_t, aPick_f, aAlloc_one, aAlloc_flat, aBox_some, aBuild_flat, aInt_add, aBin_add, aInt_sub, aBin_sub, aInt_mul, aBin_mul, aInt_quo, aBin_quo, aInt_rem, aBin_rem, aInt_and, aBin_and, aInt_or, aBin_or, aInt_xor, aBin_xor, aInt_andNot, aBin_andNot, aInt_eql, aBin_eql, aInt_neq, aBin_neq, aInt_lss, aBin_lss, aInt_leq, aBin_leq, aInt_gtr, aBin_gtr, aInt_geq, aBin_geq, aBin_shl, aBin_shr, aShift_shl, aShift_shr, aBin_be1, aBin_bn1, aBin_be2, aBin_bn2, aBin_be3, aBin_bn3, aBin_be4, aBin_bn4, aBin_be5, aBin_bn5, aBin_be6, aBin_bn6, aBin_be7, aBin_bn7, aBin_be8, aBin_bn8, aBin_be9, aBin_bn9, aUn_b, aUn_t, aUn_f, aUn_i, aNil_ptr, aNil_pv, aConv_int, aField_ptr, aField_pv, aIdx_sl, aIdx_prm, aIdx_row, aIdx_drow, aMake_i, aMake_s, aExtr_tup, aLen_ref, aLen_nil, aLen_sl, aLen_prm, aLen_str, aBuildL_some, aBuildS_some, aLoad_1b, aLoad_1d, aLoad_fb, aLoad_fd, aLoad_1p, aLoad_fp, aLoad_ep, aLoad_rr, aLoad_rd, aStore_1, aStore_f, aStore_r, aApp_some, aAppend_nil, aAppend_ref, aSlice_h, aSlice_l, aSlice_lh, aop_slice3, aSlice3_r, aop_field, aFld_agg, aBinW_f, aBinW_t, aWrap_mul, aWrap_add, isW_tmp, isW_mulc, isW_addc, isW_sub, isW_quo, isW_rem, isW_and, isW_or, isW_xor, isW_andNot, isW_shl, isW_shr, isW_eql, isW_neq, isW_lss, isW_leq, isW_gtr, isW_geq, Int.reduceLT, aBinW_dF, aBinW_dT, bc_draw, kregD_at, aopsD_nil, aopsD_plain, aopsD_guard, kontD_at, contD_at, yesD_at, noD_at, splD_bool, splD_undef, splD_skip, splD_int, splD_tt, splD_ff, splD_str, splD_nil, splD_sl, splD_prm, splD_ref, splD_ptr, splD_rp, splD_ep, splD_pv, splD_agg, splD_tup, splD_clo, gD_tt, gD_tf, gD_ft, gD_ff, gD_ts, gD_fs, slotO_some, addTr_nil, addTr_cons, memQ_nil, memQ_cons, clash_nil, clash_cons, regC_none, regC_nil, regC_cons, regR_nil, regR_cons, Int.toNat_zero, Int.toNat_one, rng0, rng1, rng2, rng3, rng4, SC.take, SC.drop, mp_nil, acond_ct, acond_cf, mp_one0, mp_one1, mp_one2, mp_one3, kcall_one, liveB_row, liveB_box, idx, cont, still, dies, lend, lendA, lendDies, snocs, SC.snoc, SC.app, meet, AV.cells, fillA, List.getD_cons_zero, List.getD_cons_succ, List.set_cons_zero, List.set_cons_succ, List.length_singleton, Nat.le_refl, Nat.lt_irrefl, Nat.reduceLT, Nat.reduceLeDiff, Option.map_some, Option.map_none, List.flatMap_nil, List.flatMap_cons, Nat.zero_add, BEq.rfl, kcall_two, mp_two0, mp_two1, mp_two2, mp_two3, mp_two4, aop_makeFunc, plainA, Bool.true_and, sl3, ty3, un3, sl49, ty49, un49, sl71, ty71, un71, sl69, ty69, un69, sl5, ty5, un5, sl2, ty2, un2, sl21, ty21, un21, sl4, ty4, un4, sl9, un9, sl22, ty22, un22, sl31, ty31, un31, sl36, sl53, ty38, sl38, ty41, sl41, inR64, inRu64, inRu32, Try.f17]
  refine bc_loop (fun i : Nat => i ≤ xs.length ∧ ∀ j, j < i → xs.getD j 0 = k + j)
    (fun i => ⟨[(0, .prm 0 (.ints .i64 xs)), (1, .int .i64 (k + i)), (5, .int .i64 i)], []⟩) (fun i => xs.length - i)
    [0, 1, 5] [] 0 rfl (by simp [St.conv, St.bf, getE, putE, getB, cv, cvL, cvB, idx, still, pack, lifts, liftOne, cellsOfB, setB]) (by simp) fun i ⟨h1, h2⟩ => ?_
  simp only [kcode_at, kreg_at, bc_skip, bc_seq, bc_cond, bc_block, bc_exit, bc_ret, bc_region, lkX_cons, acond_tmp, aCase_t, aCase_f, aCase_b, afin_nil, cvE_some, resL, resV, resC, cv, cvL, pack, entryE, inPrm, Option.getD_some, acall_clo, add_sp, add_lend, kcall_nil, selOf, selC, selA, inArgs, inA, inL, okA, okL, okBx, okC, outA, outL, outU, outB, deep, deepL, boxIds, AV.bid, List.map_nil, List.map_cons, List.all_nil, List.all_cons, BEq.rfl, Bool.and_true, Bool.true_and, List.append_nil, aops_nil, aops_plain, aops_guard, kont_at, yes_at, no_at, aop_move, aop_assign, aop_pick, aop_alloc, aop_box, aop_build, aop_buildSlice, aop_load, aop_store, aop_nilCheck, aop_binOp, aop_unOp, aop_convert, aop_fieldAddr, aop_indexAddr, aop_slice, aop_extract, aop_makeSlice, aop_len, aop_max, aMax_int, slTy2, SC0, aop_append, aop_call, evalE, getE, putE, getB, setB, St.put, setsB, nth, AV.ofV, AV.blk, AV.bid, AV.one, SC.len, SC.get, List.length_nil, List.length_cons, Nat.reduceEqDiff, Nat.reduceAdd, ↓reduceIte, true_and, and_true, Bool.true_eq_false, Bool.false_eq_true, false_imp_iff, true_imp_iff, decide_eq_true_eq, Bool.not_eq_true', Bool.not_eq_false', decide_eq_false_iff_not, Option.isSome, List.nil_append, List.cons_append, aGuardO_some, aGuard_tt, aGuard_tf, aGuard_ft, aGuard_ff, aGuard_tb, aGuard_fb, aGuard_ts, aGuard_fs, aPick_b, aPick_t, aPick_f, aAlloc_one, aAlloc_flat, aBox_some, aBuild_flat, aInt_add, aBin_add, aInt_sub, aBin_sub, aInt_mul, aBin_mul, aInt_quo, aBin_quo, aInt_rem, aBin_rem, aInt_and, aBin_and, aInt_or, aBin_or, aInt_xor, aBin_xor, aInt_andNot, aBin_andNot, aInt_eql, aBin_eql, aInt_neq, aBin_neq, aInt_lss, aBin_lss, aInt_leq, aBin_leq, aInt_gtr, aBin_gtr, aInt_geq, aBin_geq, aBin_shl, aBin_shr, aShift_shl, aShift_shr, aBin_be1, aBin_bn1, aBin_be2, aBin_bn2, aBin_be3, aBin_bn3, aBin_be4, aBin_bn4, aBin_be5, aBin_bn5, aBin_be6, aBin_bn6, aBin_be7, aBin_bn7, aBin_be8, aBin_bn8, aBin_be9, aBin_bn9, aUn_b, aUn_t, aUn_f, aUn_i, aNil_ptr, aNil_pv, aConv_int, aField_ptr, aField_pv, aIdx_sl, aIdx_prm, aIdx_row, aIdx_drow, aMake_i, aMake_s, aExtr_tup, aLen_ref, aLen_nil, aLen_sl, aLen_prm, aLen_str, aBuildL_some, aBuildS_some, aLoad_1b, aLoad_1d, aLoad_fb, aLoad_fd, aLoad_1p, aLoad_fp, aLoad_ep, aLoad_rr, aLoad_rd, aStore_1, aStore_f, aStore_r, aApp_some, aAppend_nil, aAppend_ref, aSlice_h, aSlice_l, aSlice_lh, aop_slice3, aSlice3_r, aop_field, aFld_agg, aBinW_f, aBinW_t, aWrap_mul, aWrap_add, isW_tmp, isW_mulc, isW_addc, isW_sub, isW_quo, isW_rem, isW_and, isW_or, isW_xor, isW_andNot, isW_shl, isW_shr, isW_eql, isW_neq, isW_lss, isW_leq, isW_gtr, isW_geq, Int.reduceLT, aBinW_dF, aBinW_dT, bc_draw, kregD_at, aopsD_nil, aopsD_plain, aopsD_guard, kontD_at, contD_at, yesD_at, noD_at, splD_bool, splD_undef, splD_skip, splD_int, splD_tt, splD_ff, splD_str, splD_nil, splD_sl, splD_prm, splD_ref, splD_ptr, splD_rp, splD_ep, splD_pv, splD_agg, splD_tup, splD_clo, gD_tt, gD_tf, gD_ft, gD_ff, gD_ts, gD_fs, slotO_some, addTr_nil, addTr_cons, memQ_nil, memQ_cons, clash_nil, clash_cons, regC_none, regC_nil, regC_cons, regR_nil, regR_cons, Int.toNat_zero, Int.toNat_one, rng0, rng1, rng2, rng3, rng4, SC.take, SC.drop, mp_nil, acond_ct, acond_cf, mp_one0, mp_one1, mp_one2, mp_one3, kcall_one, liveB_row, liveB_box, idx, cont, still, dies, lend, lendA, lendDies, snocs, SC.snoc, SC.app, meet, AV.cells, fillA, List.getD_cons_zero, List.getD_cons_succ, List.set_cons_zero, List.set_cons_succ, List.length_singleton, Nat.le_refl, Nat.lt_irrefl, Nat.reduceLT, Nat.reduceLeDiff, Option.map_some, Option.map_none, List.flatMap_nil, List.flatMap_cons, Nat.zero_add, BEq.rfl, kcall_two, mp_two0, mp_two1, mp_two2, mp_two3, mp_two4, aop_makeFunc, plainA, Bool.true_and, sl3, ty3, un3, sl49, ty49, un49, sl71, ty71, un71, sl69, ty69, un69, sl5, ty5, un5, sl2, ty2, un2, sl21, ty21, un21, sl4, ty4, un4, sl9, un9, sl22, ty22, un22, sl31, ty31, un31, sl36, sl53, ty38, sl38, ty41, sl41, inR64, inRu64, inRu32, Int.toNat_natCast]
  refine ⟨fun hi => ⟨by omega, fun h => ?_, fun h => ⟨by omega, by omega, ?_⟩⟩, fun hi => ?_⟩
  · rw [heldI_f (i := i) (by omega) h]
  · refine klp_of (i + 1) ?_ ⟨by omega, fun j hj => ?_⟩ (by omega)
    · simp [St.conv, St.bf, getE, putE, getB, cv, cvL, cvB, idx, still, pack, lifts, liftOne, cellsOfB, setB]
      omega
    · by_cases e : j = i
      · rw [e]; exact h
      · exact h2 j (by omega)
  · have : i = xs.length := by omega
    subst this
    rw [heldI_t h2]
def lend_laws_heldIntS : List Nat := []
def sp_laws_heldIntS : List AV → List Bx → (AV → List Bx → Prop) → Prop
  | [.sl none (.ints .i64 xs), .int .i64 k], [], K => (0 ≤ k ∧ k + xs.length ≤ 9223372036854775807) ∧ K (.int .i64 (heldI xs k)) []
  | _, _, _ => False
theorem at_laws_heldIntS {xs : List Int} {k : Int} {K : AV → List Bx → Prop} : sp_laws_heldIntS [.sl none (.ints .i64 xs), .int .i64 k] [] K = ((0 ≤ k ∧ k + xs.length ≤ 9223372036854775807) ∧ K (.int .i64 (heldI xs k)) []) := id rfl
theorem ok_laws_heldIntS : ∀ args giv K, sp_laws_heldIntS args giv K → ∃ r outs, ARuns Try.prog 17 args giv r outs ∧ K r outs := by
  intro args giv K hk
  unfold sp_laws_heldIntS at hk
  split at hk
  · obtain ⟨hp1, hk⟩ := hk; exact ⟨_, _, runs_laws_heldIntS _ _ hp1, hk⟩
  · exact hk.elim
theorem is_laws_szIntS : FnIs Try.prog 45 12 [.tmp 4] (Try.f45.body.getD .skip) := ⟨⟨Try.f45, by kernel_rfl, by kernel_rfl, by kernel_rfl, by kernel_rfl⟩, by kernel_rfl, by kernel_rfl⟩
def G_laws_szIntS : Gm := Gm.none
theorem G_laws_szIntS_ok : G_laws_szIntS.ok Try.prog := Gm.none_ok
set_option maxHeartbeats 1000000 in
set_option maxRecDepth 100000 in
theorem runs_laws_szIntS (xs : List Int) (n : Int) (hp1 : 0 ≤ n ∧ n ≤ 9223372036854775807) : ARuns Try.prog 45 [.sl none (.ints .i64 xs), .int .i64 n] [] (.int .i64 (if n - xs.length < 0 then -1 else n - xs.length)) [] := by
  refine ARuns_bc G_laws_szIntS_ok is_laws_szIntS (by simp) fun hl hlB => ?_
  simp only [kcode_at, kreg_at, bc_skip, bc_seq, bc_cond, bc_block, bc_exit, bc_ret, bc_region, lkX_cons, acond_tmp, aCase_t, aCase_f, aCase_b, afin_nil, cvE_some, resL, resV, resC, cv, cvL, pack, entryE, inPrm, Option.getD_some, acall_clo, add_sp, add_lend, kcall_nil, selOf, selC, selA, inArgs, inA, inL, okA, okL, okBx, okC, outA, outL, outU, outB, deep, deepL, boxIds, AV.bid, List.map_nil, List.map_cons, List.all_nil, List.all_cons, BEq.rfl, Bool.and_true, Bool.true_and, List.append_nil, aops_nil, aops_plain, aops_guard, kont_at, yes_at, no_at, aop_move, aop_assign, aop_pick, aop_alloc, aop_box, aop_build, aop_buildSlice, aop_load, aop_store, aop_nilCheck, aop_binOp, aop_unOp, aop_convert, aop_fieldAddr, aop_indexAddr, aop_slice, aop_extract, aop_makeSlice, aop_len, aop_max, aMax_int, slTy2, SC0, aop_append, aop_call, evalE, getE, putE, getB, setB, St.put, setsB, nth, AV.ofV, AV.blk, AV.bid, AV.one, SC.len, SC.get, List.length_nil, List.length_cons, Nat.reduceEqDiff, Nat.reduceAdd, ↓reduceIte, true_and, and_true, Bool.true_eq_false, Bool.false_eq_true, false_imp_iff, true_imp_iff, decide_eq_true_eq, Bool.not_eq_true', Bool.not_eq_false', decide_eq_false_iff_not, Option.isSome, List.nil_append, List.cons_append, aGuardO_some, aGuard_tt, aGuard_tf, aGuard_ft, aGuard_ff, aGuard_tb, aGuard_fb, aGuard_ts, aGuard_fs, aPick_b, aPick_t, aPick_f, aAlloc_one, aAlloc_flat, aBox_some, aBuild_flat, aInt_add, aBin_add, aInt_sub, aBin_sub, aInt_mul, aBin_mul, aInt_quo, aBin_quo, aInt_rem, aBin_rem, aInt_and, aBin_and, aInt_or, aBin_or, aInt_xor, aBin_xor, aInt_andNot, aBin_andNot, aInt_eql, aBin_eql, aInt_neq, aBin_neq, aInt_lss, aBin_lss, aInt_leq, aBin_leq, aInt_gtr, aBin_gtr, aInt_geq, aBin_geq, aBin_shl, aBin_shr, aShift_shl, aShift_shr, aBin_be1, aBin_bn1, aBin_be2, aBin_bn2, aBin_be3, aBin_bn3, aBin_be4, aBin_bn4, aBin_be5, aBin_bn5, aBin_be6, aBin_bn6, aBin_be7, aBin_bn7, aBin_be8, aBin_bn8, aBin_be9, aBin_bn9, aUn_b, aUn_t, aUn_f, aUn_i, aNil_ptr, aNil_pv, aConv_int, aField_ptr, aField_pv, aIdx_sl, aIdx_prm, aIdx_row, aIdx_drow, aMake_i, aMake_s, aExtr_tup, aLen_ref, aLen_nil, aLen_sl, aLen_prm, aLen_str, aBuildL_some, aBuildS_some, aLoad_1b, aLoad_1d, aLoad_fb, aLoad_fd, aLoad_1p, aLoad_fp, aLoad_ep, aLoad_rr, aLoad_rd, aStore_1, aStore_f, aStore_r, aApp_some, aAppend_nil, aAppend_ref, aSlice_h, aSlice_l, aSlice_lh, aop_slice3, aSlice3_r, aop_field, aFld_agg, aBinW_f, aBinW_t, aWrap_mul, aWrap_add, isW_tmp, isW_mulc, isW_addc, isW_sub, isW_quo, isW_rem, isW_and, isW_or, isW_xor, isW_andNot, isW_shl, isW_shr, isW_eql, isW_neq, isW_lss, isW_leq, isW_gtr, isW_geq, Int.reduceLT, aBinW_dF, aBinW_dT, bc_draw, kregD_at, aopsD_nil, aopsD_plain, aopsD_guard, kontD_at, contD_at, yesD_at, noD_at, splD_bool, splD_undef, splD_skip, splD_int, splD_tt, splD_ff, splD_str, splD_nil, splD_sl, splD_prm, splD_ref, splD_ptr, splD_rp, splD_ep, splD_pv, splD_agg, splD_tup, splD_clo, gD_tt, gD_tf, gD_ft, gD_ff, gD_ts, gD_fs, slotO_some, addTr_nil, addTr_cons, memQ_nil, memQ_cons, clash_nil, clash_cons, regC_none, regC_nil, regC_cons, regR_nil, regR_cons, Int.toNat_zero, Int.toNat_one, rng0, rng1, rng2, rng3, rng4, SC.take, SC.drop, mp_nil, acond_ct, acond_cf, mp_one0, mp_one1, mp_one2, mp_one3, kcall_one, liveB_row, liveB_box, idx, cont, still, dies, lend, lendA, lendDies, snocs, SC.snoc, SC.app, meet, AV.cells, fillA, List.getD_cons_zero, List.getD_cons_succ, List.set_cons_zero, List.set_cons_succ, List.length_singleton, Nat.le_refl, Nat.lt_irrefl, Nat.reduceLT, Nat.reduceLeDiff, Option.map_some, Option.map_none, List.flatMap_nil, List.flatMap_cons, Nat.zero_add, BEq.rfl, kcall_two, mp_two0, mp_two1, mp_two2, mp_two3, mp_two4, aop_makeFunc, plainA, Bool.true_and, sl3, ty3, un3, sl49, ty49, un49, sl71, ty71, un71, sl69, ty69, un69, sl5, ty5, un5, sl2, ty2, un2, sl21, ty21, un21, sl4, ty4, un4, sl9, un9, sl22, ty22, un22, sl31, ty31, un31, sl36, sl53, ty38, sl38, ty41, sl41, inR64, inRu64, inRu32, Try.f45]
  simp only [lensA, lenA, lenSC] at hl
  refine ⟨by omega, fun h => by rw [if_pos h], fun h => by rw [if_neg h]⟩
def lend_laws_szIntS : List Nat := []
def sp_laws_szIntS : List AV → List Bx → (AV → List Bx → Prop) → Prop
  | [.sl none (.ints .i64 xs), .int .i64 n], [], K => (0 ≤ n ∧ n ≤ 9223372036854775807) ∧ K (.int .i64 (if n - xs.length < 0 then -1 else n - xs.length)) []
  | _, _, _ => False
theorem at_laws_szIntS {xs : List Int} {n : Int} {K : AV → List Bx → Prop} : sp_laws_szIntS [.sl none (.ints .i64 xs), .int .i64 n] [] K = ((0 ≤ n ∧ n ≤ 9223372036854775807) ∧ K (.int .i64 (if n - xs.length < 0 then -1 else n - xs.length)) []) := id rfl
theorem ok_laws_szIntS : ∀ args giv K, sp_laws_szIntS args giv K → ∃ r outs, ARuns Try.prog 45 args giv r outs ∧ K r outs := by
  intro args giv K hk
  unfold sp_laws_szIntS at hk
  split at hk
  · obtain ⟨hp1, hk⟩ := hk; exact ⟨_, _, runs_laws_szIntS _ _ hp1, hk⟩
  · exact hk.elim
theorem is_laws_szFamily : FnIs Try.prog 23 12 [.tmp 4] (Try.f23.body.getD .skip) := ⟨⟨Try.f23, by kernel_rfl, by kernel_rfl, by kernel_rfl, by kernel_rfl⟩, by kernel_rfl, by kernel_rfl⟩
def G_laws_szFamily : Gm := (Gm.none.add 45 lend_laws_szIntS sp_laws_szIntS)
theorem G_laws_szFamily_ok : G_laws_szFamily.ok Try.prog := (Gm.add_ok Gm.none_ok ok_laws_szIntS)
theorem gs_laws_szFamily_45 : G_laws_szFamily.sp 45 = sp_laws_szIntS ∧ G_laws_szFamily.lend 45 = lend_laws_szIntS := ⟨rfl, rfl⟩
set_option maxHeartbeats 1000000 in
set_option maxRecDepth 100000 in
theorem runs_laws_szFamily (g : Int) (xs : List Int) (n : Int) (hp1 : 0 ≤ n ∧ n ≤ 9223372036854775807) : ARuns Try.prog 23 [.agg [.int .i64 g, .sl none (.ints .i64 xs)], .int .i64 n] [] (.int .i64 (if n - xs.length < 0 then -1 else n - xs.length)) [] := by
  refine ARuns_bc G_laws_szFamily_ok is_laws_szFamily (by simp) fun hl hlB => ?_
  simp only [kcode_at, kreg_at, bc_skip, bc_seq, bc_cond, bc_block, bc_exit, bc_ret, bc_region, lkX_cons, acond_tmp, aCase_t, aCase_f, aCase_b, afin_nil, cvE_some, resL, resV, resC, cv, cvL, pack, entryE, inPrm, Option.getD_some, acall_clo, add_sp, add_lend, kcall_nil, selOf, selC, selA, inArgs, inA, inL, okA, okL, okBx, okC, outA, outL, outU, outB, deep, deepL, boxIds, AV.bid, List.map_nil, List.map_cons, List.all_nil, List.all_cons, BEq.rfl, Bool.and_true, Bool.true_and, List.append_nil, aops_nil, aops_plain, aops_guard, kont_at, yes_at, no_at, aop_move, aop_assign, aop_pick, aop_alloc, aop_box, aop_build, aop_buildSlice, aop_load, aop_store, aop_nilCheck, aop_binOp, aop_unOp, aop_convert, aop_fieldAddr, aop_indexAddr, aop_slice, aop_extract, aop_makeSlice, aop_len, aop_max, aMax_int, slTy2, SC0, aop_append, aop_call, evalE, getE, putE, getB, setB, St.put, setsB, nth, AV.ofV, AV.blk, AV.bid, AV.one, SC.len, SC.get, List.length_nil, List.length_cons, Nat.reduceEqDiff, Nat.reduceAdd, ↓reduceIte, true_and, and_true, Bool.true_eq_false, Bool.false_eq_true, false_imp_iff, true_imp_iff, decide_eq_true_eq, Bool.not_eq_true', Bool.not_eq_false', decide_eq_false_iff_not, Option.isSome, List.nil_append, List.cons_append, aGuardO_some, aGuard_tt, aGuard_tf, aGuard_ft, aGuard_ff, aGuard_tb, aGuard_fb, aGuard_ts, aGuard_fs, aPick_b, aPick_t, aPick_f, aAlloc_one, aAlloc_flat, aBox_some, aBuild_flat, aInt_add, aBin_add, aInt_sub, aBin_sub, aInt_mul, aBin_mul, aInt_quo, aBin_quo, aInt_rem, aBin_rem, aInt_and, aBin_and, aInt_or, aBin_or, aInt_xor, aBin_xor, aInt_andNot, aBin_andNot, aInt_eql, aBin_eql, aInt_neq, aBin_neq, aInt_lss, aBin_lss, aInt_leq, aBin_leq, aInt_gtr, aBin_gtr, aInt_geq, aBin_geq, aBin_shl, aBin_shr, aShift_shl, aShift_shr, aBin_be1, aBin_bn1, aBin_be2, aBin_bn2, aBin_be3, aBin_bn3, aBin_be4, aBin_bn4, aBin_be5, aBin_bn5, aBin_be6, aBin_bn6, aBin_be7, aBin_bn7, aBin_be8, aBin_bn8, aBin_be9, aBin_bn9, aUn_b, aUn_t, aUn_f, aUn_i, aNil_ptr, aNil_pv, aConv_int, aField_ptr, aField_pv, aIdx_sl, aIdx_prm, aIdx_row, aIdx_drow, aMake_i, aMake_s, aExtr_tup, aLen_ref, aLen_nil, aLen_sl, aLen_prm, aLen_str, aBuildL_some, aBuildS_some, aLoad_1b, aLoad_1d, aLoad_fb, aLoad_fd, aLoad_1p, aLoad_fp, aLoad_ep, aLoad_rr, aLoad_rd, aStore_1, aStore_f, aStore_r, aApp_some, aAppend_nil, aAppend_ref, aSlice_h, aSlice_l, aSlice_lh, aop_slice3, aSlice3_r, aop_field, aFld_agg, aBinW_f, aBinW_t, aWrap_mul, aWrap_add, isW_tmp, isW_mulc, isW_addc, isW_sub, isW_quo, isW_rem, isW_and, isW_or, isW_xor, isW_andNot, isW_shl, isW_shr, isW_eql, isW_neq, isW_lss, isW_leq, isW_gtr, isW_geq, Int.reduceLT, aBinW_dF, aBinW_dT, bc_draw, kregD_at, aopsD_nil, aopsD_plain, aopsD_guard, kontD_at, contD_at, yesD_at, noD_at, splD_bool, splD_undef, splD_skip, splD_int, splD_tt, splD_ff, splD_str, splD_nil, splD_sl, splD_prm, splD_ref, splD_ptr, splD_rp, splD_ep, splD_pv, splD_agg, splD_tup, splD_clo, gD_tt, gD_tf, gD_ft, gD_ff, gD_ts, gD_fs, slotO_some, addTr_nil, addTr_cons, memQ_nil, memQ_cons, clash_nil, clash_cons, regC_none, regC_nil, regC_cons, regR_nil, regR_cons, Int.toNat_zero, Int.toNat_one, rng0, rng1, rng2, rng3, rng4, SC.take, SC.drop, mp_nil, acond_ct, acond_cf, mp_one0, mp_one1, mp_one2, mp_one3, kcall_one, liveB_row, liveB_box, idx, cont, still, dies, lend, lendA, lendDies, snocs, SC.snoc, SC.app, meet, AV.cells, fillA, List.getD_cons_zero, List.getD_cons_succ, List.set_cons_zero, List.set_cons_succ, List.length_singleton, Nat.le_refl, Nat.lt_irrefl, Nat.reduceLT, Nat.reduceLeDiff, Option.map_some, Option.map_none, List.flatMap_nil, List.flatMap_cons, Nat.zero_add, BEq.rfl, kcall_two, mp_two0, mp_two1, mp_two2, mp_two3, mp_two4, aop_makeFunc, plainA, Bool.true_and, sl3, ty3, un3, sl49, ty49, un49, sl71, ty71, un71, sl69, ty69, un69, sl5, ty5, un5, sl2, ty2, un2, sl21, ty21, un21, sl4, ty4, un4, sl9, un9, sl22, ty22, un22, sl31, ty31, un31, sl36, sl53, ty38, sl38, ty41, sl41, inR64, inRu64, inRu32, gs_laws_szFamily_45, at_laws_szIntS, lend_laws_szIntS, Try.f23]
  refine ⟨hp1, fun h => ?_, fun h => trivial⟩
  by_cases h0 : n - xs.length < 0
  · rw [if_pos h0]
  · rw [if_neg h0] at h; omega
def lend_laws_szFamily : List Nat := []
def sp_laws_szFamily : List AV → List Bx → (AV → List Bx → Prop) → Prop
  | [.agg [.int .i64 g, .sl none (.ints .i64 xs)], .int .i64 n], [], K => (0 ≤ n ∧ n ≤ 9223372036854775807) ∧ K (.int .i64 (if n - xs.length < 0 then -1 else n - xs.length)) []
  | _, _, _ => False
theorem at_laws_szFamily {g : Int} {xs : List Int} {n : Int} {K : AV → List Bx → Prop} : sp_laws_szFamily [.agg [.int .i64 g, .sl none (.ints .i64 xs)], .int .i64 n] [] K = ((0 ≤ n ∧ n ≤ 9223372036854775807) ∧ K (.int .i64 (if n - xs.length < 0 then -1 else n - xs.length)) []) := id rfl
theorem ok_laws_szFamily : ∀ args giv K, sp_laws_szFamily args giv K → ∃ r outs, ARuns Try.prog 23 args giv r outs ∧ K r outs := by
  intro args giv K hk
  unfold sp_laws_szFamily at hk
  split at hk
  · obtain ⟨hp1, hk⟩ := hk; exact ⟨_, _, runs_laws_szFamily _ _ _ hp1, hk⟩
  · exact hk.elim
theorem is_laws_toIntS : FnIs Try.prog 11 22 [.tmp 2] (Try.f11.body.getD .skip) := ⟨⟨Try.f11, by kernel_rfl, by kernel_rfl, by kernel_rfl, by kernel_rfl⟩, by kernel_rfl, by kernel_rfl⟩
def G_laws_toIntS : Gm := Gm.none
theorem G_laws_toIntS_ok : G_laws_toIntS.ok Try.prog := Gm.none_ok
set_option maxHeartbeats 1000000 in
set_option maxRecDepth 100000 in
theorem runs_laws_toIntS (xs : List Int) (hp1 : xs.length ≤ 1099511627776) : ARuns Try.prog 11 [.sl none (.ints .i64 xs)] [] (.ref 0 xs.length) [.row 3 (.ints .i64 xs)] := by
  refine ARuns_bc G_laws_toIntS_ok is_laws_toIntS (by simp) fun hl hlB => ?_
  simp only [kcode_at, kreg_at, bc_skip, bc_seq, bc_cond, bc_block, bc_exit, bc_ret, bc_region, lkX_cons, acond_tmp, aCase_t, aCase_f, aCase_b, afin_nil, cvE_some, resL, resV, resC, cv, cvL, pack, entryE, inPrm, Option.getD_some, acall_clo, add_sp, add_lend, kcall_nil, selOf, selC, selA, inArgs, inA, inL, okA, okL, okBx, okC, outA, outL, outU, outB, deep, deepL, boxIds, AV.bid, List.map_nil, List.map_cons, List.all_nil, List.all_cons, BEq.rfl, Bool.and_true, Bool.true_and, List.append_nil, aops_nil, aops_plain, aops_guard, kont_at, yes_at, no_at, aop_move, aop_assign, aop_pick, aop_alloc, aop_box, aop_build, aop_buildSlice, aop_load, aop_store, aop_nilCheck, aop_binOp, aop_unOp, aop_convert, aop_fieldAddr, aop_indexAddr, aop_slice, aop_extract, aop_makeSlice, aop_len, aop_max, aMax_int, slTy2, SC0, aop_append, aop_call, evalE, getE, putE, getB, setB, St.put, setsB, nth, AV.ofV, AV.blk, AV.bid, AV.one, SC.len, SC.get, List.length_nil, List.length_cons, Nat.reduceEqDiff, Nat.reduceAdd, ↓reduceIte, true_and, and_true, Bool.true_eq_false, Bool.false_eq_true, false_imp_iff, true_imp_iff, decide_eq_true_eq, Bool.not_eq_true', Bool.not_eq_false', decide_eq_false_iff_not, Option.isSome, List.nil_append, List.cons_append, aGuardO_some, aGuard_tt, aGuard_tf, aGuard_ft, aGuard_ff, aGuard_tb, aGuard_fb, aGuard_ts, aGuard_fs, aPick_b, aPick_t, aPick_f, aAlloc_one, aAlloc_flat, aBox_some, aBuild_flat, aInt_add, aBin_add, aInt_sub, aBin_sub, aInt_mul, aBin_mul, aInt_quo, aBin_quo, aInt_rem, aBin_rem, aInt_and, aBin_and, aInt_or, aBin_or, aInt_xor, aBin_xor, aInt_andNot, aBin_andNot, aInt_eql, aBin_eql, aInt_neq, aBin_neq, aInt_lss, aBin_lss, aInt_leq, aBin_leq, aInt_gtr, aBin_gtr, aInt_geq, aBin_geq, aBin_shl, aBin_shr, aShift_shl, aShift_shr, aBin_be1, aBin_bn1, aBin_be2, aBin_bn2, aBin_be3, aBin_bn3, aBin_be4, aBin_bn4, aBin_be5, aBin_bn5, aBin_be6, aBin_bn6, aBin_be7, aBin_bn7, aBin_be8, aBin_bn8, aBin_be9, aBin_bn9, aUn_b, aUn_t, aUn_f, aUn_i, aNil_ptr, aNil_pv, aConv_int, aField_ptr, aField_pv, aIdx_sl, aIdx_prm, aIdx_row, aIdx_drow, aMake_i, aMake_s, aExtr_tup, aLen_ref, aLen_nil, aLen_sl, aLen_prm, aLen_str, aBuildL_some, aBuildS_some, aLoad_1b, aLoad_1d, aLoad_fb, aLoad_fd, aLoad_1p, aLoad_fp, aLoad_ep, aLoad_rr, aLoad_rd, aStore_1, aStore_f, aStore_r, aApp_some, aAppend_nil, aAppend_ref, aSlice_h, aSlice_l, aSlice_lh, aop_slice3, aSlice3_r, aop_field, aFld_agg, aBinW_f, aBinW_t, aWrap_mul, aWrap_add, isW_tmp, isW_mulc, isW_addc, isW_sub, isW_quo, isW_rem, isW_and, isW_or, isW_xor, isW_andNot, isW_shl, isW_shr, isW_eql, isW_neq, isW_lss, isW_leq, isW_gtr, isW_geq, Int.reduceLT, aBinW_dF, aBinW_dT, bc_draw, kregD_at, aopsD_nil, aopsD_plain, aopsD_guard, kontD_at, contD_at, yesD_at, noD_at, splD_bool, splD_undef, splD_skip, splD_int, splD_tt, splD_ff, splD_str, splD_nil, splD_sl, splD_prm, splD_ref, splD_ptr, splD_rp, splD_ep, splD_pv, splD_agg, splD_tup, splD_clo, gD_tt, gD_tf, gD_ft, gD_ff, gD_ts, gD_fs, slotO_some, addTr_nil, addTr_cons, memQ_nil, memQ_cons, clash_nil, clash_cons, regC_none, regC_nil, regC_cons, regR_nil, regR_cons, Int.toNat_zero, Int.toNat_one, rng0, rng1, rng2, rng3, rng4, SC.take, SC.drop, mp_nil, acond_ct, acond_cf, mp_one0, mp_one1, mp_one2, mp_one3, kcall_one, liveB_row, liveB_box, idx, cont, still, dies, lend, lendA, lendDies, snocs, SC.snoc, SC.app, meet, AV.cells, fillA, List.getD_cons_zero, List.getD_cons_succ, List.set_cons_zero, List.set_cons_succ, List.length_singleton, Nat.le_refl, Nat.lt_irrefl, Nat.reduceLT, Nat.reduceLeDiff, Option.map_some, Option.map_none, List.flatMap_nil, List.flatMap_cons, Nat.zero_add, BEq.rfl, kcall_two, mp_two0, mp_two1, mp_two2, mp_two3, mp_two4, aop_makeFunc, plainA, Bool.true_and, sl3, ty3, un3, sl49, ty49, un49, sl71, ty71, un71, sl69, ty69, un69, sl5, ty5, un5, sl2, ty2, un2, sl21, ty21, un21, sl4, ty4, un4, sl9, un9, sl22, ty22, un22, sl31, ty31, un31, sl36, sl53, ty38, sl38, ty41, sl41, inR64, inRu64, inRu32, Try.f11]
  refine ⟨⟨by omega, by omega, by omega⟩, ?_⟩
  refine bc_loop (fun i : Nat => i ≤ xs.length)
    (fun i => ⟨[(0, .prm 0 (.ints .i64 xs)), (3, .ref 0 xs.length), (4, .int .i64 i)], [.row 3 (.ints .i64 (xs.take i ++ List.replicate (xs.length - i) 0))]⟩) (fun i => xs.length - i)
    [0, 3, 4] [0] 0 rfl (by simp [St.conv, St.bf, getE, putE, getB, cv, cvL, cvB, idx, still, pack, lifts, liftOne, cellsOfB, setB]) (by simp) fun i h1 => ?_
  simp only [kcode_at, kreg_at, bc_skip, bc_seq, bc_cond, bc_block, bc_exit, bc_ret, bc_region, lkX_cons, acond_tmp, aCase_t, aCase_f, aCase_b, afin_nil, cvE_some, resL, resV, resC, cv, cvL, pack, entryE, inPrm, Option.getD_some, acall_clo, add_sp, add_lend, kcall_nil, selOf, selC, selA, inArgs, inA, inL, okA, okL, okBx, okC, outA, outL, outU, outB, deep, deepL, boxIds, AV.bid, List.map_nil, List.map_cons, List.all_nil, List.all_cons, BEq.rfl, Bool.and_true, Bool.true_and, List.append_nil, aops_nil, aops_plain, aops_guard, kont_at, yes_at, no_at, aop_move, aop_assign, aop_pick, aop_alloc, aop_box, aop_build, aop_buildSlice, aop_load, aop_store, aop_nilCheck, aop_binOp, aop_unOp, aop_convert, aop_fieldAddr, aop_indexAddr, aop_slice, aop_extract, aop_makeSlice, aop_len, aop_max, aMax_int, slTy2, SC0, aop_append, aop_call, evalE, getE, putE, getB, setB, St.put, setsB, nth, AV.ofV, AV.blk, AV.bid, AV.one, SC.len, SC.get, List.length_nil, List.length_cons, Nat.reduceEqDiff, Nat.reduceAdd, ↓reduceIte, true_and, and_true, Bool.true_eq_false, Bool.false_eq_true, false_imp_iff, true_imp_iff, decide_eq_true_eq, Bool.not_eq_true', Bool.not_eq_false', decide_eq_false_iff_not, Option.isSome, List.nil_append, List.cons_append, aGuardO_some, aGuard_tt, aGuard_tf, aGuard_ft, aGuard_ff, aGuard_tb, aGuard_fb, aGuard_ts, aGuard_fs, aPick_b, aPick_t, aPick_f, aAlloc_one, aAlloc_flat, aBox_some, aBuild_flat, aInt_add, aBin_add, aInt_sub, aBin_sub, aInt_mul, aBin_mul, aInt_quo, aBin_quo, aInt_rem, aBin_rem, aInt_and, aBin_and, aInt_or, aBin_or, aInt_xor, aBin_xor, aInt_andNot, aBin_andNot, aInt_eql, aBin_eql, aInt_neq, aBin_neq, aInt_lss, aBin_lss, aInt_leq, aBin_leq, aInt_gtr, aBin_gtr, aInt_geq, aBin_geq, aBin_shl, aBin_shr, aShift_shl, aShift_shr, aBin_be1, aBin_bn1, aBin_be2, aBin_bn2, aBin_be3, aBin_bn3, aBin_be4, aBin_bn4, aBin_be5, aBin_bn5, aBin_be6, aBin_bn6, aBin_be7, aBin_bn7, aBin_be8, aBin_bn8, aBin_be9, aBin_bn9, aUn_b, aUn_t, aUn_f, aUn_i, aNil_ptr, aNil_pv, aConv_int, aField_ptr, aField_pv, aIdx_sl, aIdx_prm, aIdx_row, aIdx_drow, aMake_i, aMake_s, aExtr_tup, aLen_ref, aLen_nil, aLen_sl, aLen_prm, aLen_str, aBuildL_some, aBuildS_some, aLoad_1b, aLoad_1d, aLoad_fb, aLoad_fd, aLoad_1p, aLoad_fp, aLoad_ep, aLoad_rr, aLoad_rd, aStore_1, aStore_f, aStore_r, aApp_some, aAppend_nil, aAppend_ref, aSlice_h, aSlice_l, aSlice_lh, aop_slice3, aSlice3_r, aop_field, aFld_agg, aBinW_f, aBinW_t, aWrap_mul, aWrap_add, isW_tmp, isW_mulc, isW_addc, isW_sub, isW_quo, isW_rem, isW_and, isW_or, isW_xor, isW_andNot, isW_shl, isW_shr, isW_eql, isW_neq, isW_lss, isW_leq, isW_gtr, isW_geq, Int.reduceLT, aBinW_dF, aBinW_dT, bc_draw, kregD_at, aopsD_nil, aopsD_plain, aopsD_guard, kontD_at, contD_at, yesD_at, noD_at, splD_bool, splD_undef, splD_skip, splD_int, splD_tt, splD_ff, splD_str, splD_nil, splD_sl, splD_prm, splD_ref, splD_ptr, splD_rp, splD_ep, splD_pv, splD_agg, splD_tup, splD_clo, gD_tt, gD_tf, gD_ft, gD_ff, gD_ts, gD_fs, slotO_some, addTr_nil, addTr_cons, memQ_nil, memQ_cons, clash_nil, clash_cons, regC_none, regC_nil, regC_cons, regR_nil, regR_cons, Int.toNat_zero, Int.toNat_one, rng0, rng1, rng2, rng3, rng4, SC.take, SC.drop, mp_nil, acond_ct, acond_cf, mp_one0, mp_one1, mp_one2, mp_one3, kcall_one, liveB_row, liveB_box, idx, cont, still, dies, lend, lendA, lendDies, snocs, SC.snoc, SC.app, meet, AV.cells, fillA, List.getD_cons_zero, List.getD_cons_succ, List.set_cons_zero, List.set_cons_succ, List.length_singleton, Nat.le_refl, Nat.lt_irrefl, Nat.reduceLT, Nat.reduceLeDiff, Option.map_some, Option.map_none, List.flatMap_nil, List.flatMap_cons, Nat.zero_add, BEq.rfl, kcall_two, mp_two0, mp_two1, mp_two2, mp_two3, mp_two4, aop_makeFunc, plainA, Bool.true_and, sl3, ty3, un3, sl49, ty49, un49, sl71, ty71, un71, sl69, ty69, un69, sl5, ty5, un5, sl2, ty2, un2, sl21, ty21, un21, sl4, ty4, un4, sl9, un9, sl22, ty22, un22, sl31, ty31, un31, sl36, sl53, ty38, sl38, ty41, sl41, inR64, inRu64, inRu32]
  simp only [lensA, lenA, lenSC] at hl
  have e : (xs.take i ++ List.replicate (xs.length - i) (0 : Int)).length = xs.length := by simp; omega
  refine ⟨fun h => ⟨by omega, ⟨e, by omega, by omega⟩, ⟨e, by omega⟩, by omega, ?_⟩, fun h => ?_⟩
  · refine klp_of (i + 1) ?_ (by omega) (by omega)
    have := copy_step (xs := xs) (i := i) (by omega)
    simp [St.conv, St.bf, getE, putE, getB, cv, cvL, cvB, idx, still, pack, lifts, liftOne, cellsOfB, setB]
    simpa using this
  · have : i = xs.length := by omega
    subst this
    refine afin_of [0] rfl rfl (by simp [St.conv, St.bf, getE, putE, getB, cv, cvL, cvB, idx, still, pack, lifts, liftOne, cellsOfB, setB]) (by simp [St.conv, St.bf, getE, putE, getB, cv, cvL, cvB, idx, still, pack, lifts, liftOne, cellsOfB, setB])
def lend_laws_toIntS : List Nat := []
def sp_laws_toIntS : List AV → List Bx → (AV → List Bx → Prop) → Prop
  | [.sl none (.ints .i64 xs)], [], K => (xs.length ≤ 1099511627776) ∧ K (.ref 0 xs.length) [.row 3 (.ints .i64 xs)]
  | _, _, _ => False
theorem at_laws_toIntS {xs : List Int} {K : AV → List Bx → Prop} : sp_laws_toIntS [.sl none (.ints .i64 xs)] [] K = ((xs.length ≤ 1099511627776) ∧ K (.ref 0 xs.length) [.row 3 (.ints .i64 xs)]) := id rfl
theorem ok_laws_toIntS : ∀ args giv K, sp_laws_toIntS args giv K → ∃ r outs, ARuns Try.prog 11 args giv r outs ∧ K r outs := by
  intro args giv K hk
  unfold sp_laws_toIntS at hk
  split at hk
  · obtain ⟨hp1, hk⟩ := hk; exact ⟨_, _, runs_laws_toIntS _ hp1, hk⟩
  · exact hk.elim
theorem is_laws_toFamily : FnIs Try.prog 25 12 [ResultVar.cell 2 41] (Try.f25.body.getD .skip) := ⟨⟨Try.f25, by kernel_rfl, by kernel_rfl, by kernel_rfl, by kernel_rfl⟩, by kernel_rfl, by kernel_rfl⟩
def G_laws_toFamily : Gm := (Gm.none.add 11 lend_laws_toIntS sp_laws_toIntS)
theorem G_laws_toFamily_ok : G_laws_toFamily.ok Try.prog := (Gm.add_ok Gm.none_ok ok_laws_toIntS)
theorem gs_laws_toFamily_11 : G_laws_toFamily.sp 11 = sp_laws_toIntS ∧ G_laws_toFamily.lend 11 = lend_laws_toIntS := ⟨rfl, rfl⟩
set_option maxHeartbeats 1000000 in
set_option maxRecDepth 100000 in
theorem runs_laws_toFamily (n : Int) (xs : List Int) (hp1 : xs.length ≤ 1099511627776) : ARuns Try.prog 25 [.agg [.int .i64 n, .sl none (.ints .i64 xs)]] [] (.agg [.int .i64 n, .ref 0 xs.length]) [.row 3 (.ints .i64 xs)] := by
  refine ARuns_bc G_laws_toFamily_ok is_laws_toFamily (by simp) fun hl hlB => ?_
  simp only [kcode_at, kreg_at, bc_skip, bc_seq, bc_cond, bc_block, bc_exit, bc_ret, bc_region, lkX_cons, acond_tmp, aCase_t, aCase_f, aCase_b, afin_nil, cvE_some, resL, resV, resC, cv, cvL, pack, entryE, inPrm, Option.getD_some, acall_clo, add_sp, add_lend, kcall_nil, selOf, selC, selA, inArgs, inA, inL, okA, okL, okBx, okC, outA, outL, outU, outB, deep, deepL, boxIds, AV.bid, List.map_nil, List.map_cons, List.all_nil, List.all_cons, BEq.rfl, Bool.and_true, Bool.true_and, List.append_nil, aops_nil, aops_plain, aops_guard, kont_at, yes_at, no_at, aop_move, aop_assign, aop_pick, aop_alloc, aop_box, aop_build, aop_buildSlice, aop_load, aop_store, aop_nilCheck, aop_binOp, aop_unOp, aop_convert, aop_fieldAddr, aop_indexAddr, aop_slice, aop_extract, aop_makeSlice, aop_len, aop_max, aMax_int, slTy2, SC0, aop_append, aop_call, evalE, getE, putE, getB, setB, St.put, setsB, nth, AV.ofV, AV.blk, AV.bid, AV.one, SC.len, SC.get, List.length_nil, List.length_cons, Nat.reduceEqDiff, Nat.reduceAdd, ↓reduceIte, true_and, and_true, Bool.true_eq_false, Bool.false_eq_true, false_imp_iff, true_imp_iff, decide_eq_true_eq, Bool.not_eq_true', Bool.not_eq_false', decide_eq_false_iff_not, Option.isSome, List.nil_append, List.cons_append, aGuardO_some, aGuard_tt, aGuard_tf, aGuard_ft, aGuard_ff, aGuard_tb, aGuard_fb, aGuard_ts, aGuard_fs, aPick_b, aPick_t, aPick_f, aAlloc_one, aAlloc_flat, aBox_some, aBuild_flat, aInt_add, aBin_add, aInt_sub, aBin_sub, aInt_mul, aBin_mul, aInt_quo, aBin_quo, aInt_rem, aBin_rem, aInt_and, aBin_and, aInt_or, aBin_or, aInt_xor, aBin_xor, aInt_andNot, aBin_andNot, aInt_eql, aBin_eql, aInt_neq, aBin_neq, aInt_lss, aBin_lss, aInt_leq, aBin_leq, aInt_gtr, aBin_gtr, aInt_geq, aBin_geq, aBin_shl, aBin_shr, aShift_shl, aShift_shr, aBin_be1, aBin_bn1, aBin_be2, aBin_bn2, aBin_be3, aBin_bn3, aBin_be4, aBin_bn4, aBin_be5, aBin_bn5, aBin_be6, aBin_bn6, aBin_be7, aBin_bn7, aBin_be8, aBin_bn8, aBin_be9, aBin_bn9, aUn_b, aUn_t, aUn_f, aUn_i, aNil_ptr, aNil_pv, aConv_int, aField_ptr, aField_pv, aIdx_sl, aIdx_prm, aIdx_row, aIdx_drow, aMake_i, aMake_s, aExtr_tup, aLen_ref, aLen_nil, aLen_sl, aLen_prm, aLen_str, aBuildL_some, aBuildS_some, aLoad_1b, aLoad_1d, aLoad_fb, aLoad_fd, aLoad_1p, aLoad_fp, aLoad_ep, aLoad_rr, aLoad_rd, aStore_1, aStore_f, aStore_r, aApp_some, aAppend_nil, aAppend_ref, aSlice_h, aSlice_l, aSlice_lh, aop_slice3, aSlice3_r, aop_field, aFld_agg, aBinW_f, aBinW_t, aWrap_mul, aWrap_add, isW_tmp, isW_mulc, isW_addc, isW_sub, isW_quo, isW_rem, isW_and, isW_or, isW_xor, isW_andNot, isW_shl, isW_shr, isW_eql, isW_neq, isW_lss, isW_leq, isW_gtr, isW_geq, Int.reduceLT, aBinW_dF, aBinW_dT, bc_draw, kregD_at, aopsD_nil, aopsD_plain, aopsD_guard, kontD_at, contD_at, yesD_at, noD_at, splD_bool, splD_undef, splD_skip, splD_int, splD_tt, splD_ff, splD_str, splD_nil, splD_sl, splD_prm, splD_ref, splD_ptr, splD_rp, splD_ep, splD_pv, splD_agg, splD_tup, splD_clo, gD_tt, gD_tf, gD_ft, gD_ff, gD_ts, gD_fs, slotO_some, addTr_nil, addTr_cons, memQ_nil, memQ_cons, clash_nil, clash_cons, regC_none, regC_nil, regC_cons, regR_nil, regR_cons, Int.toNat_zero, Int.toNat_one, rng0, rng1, rng2, rng3, rng4, SC.take, SC.drop, mp_nil, acond_ct, acond_cf, mp_one0, mp_one1, mp_one2, mp_one3, kcall_one, liveB_row, liveB_box, idx, cont, still, dies, lend, lendA, lendDies, snocs, SC.snoc, SC.app, meet, AV.cells, fillA, List.getD_cons_zero, List.getD_cons_succ, List.set_cons_zero, List.set_cons_succ, List.length_singleton, Nat.le_refl, Nat.lt_irrefl, Nat.reduceLT, Nat.reduceLeDiff, Option.map_some, Option.map_none, List.flatMap_nil, List.flatMap_cons, Nat.zero_add, BEq.rfl, kcall_two, mp_two0, mp_two1, mp_two2, mp_two3, mp_two4, aop_makeFunc, plainA, Bool.true_and, sl3, ty3, un3, sl49, ty49, un49, sl71, ty71, un71, sl69, ty69, un69, sl5, ty5, un5, sl2, ty2, un2, sl21, ty21, un21, sl4, ty4, un4, sl9, un9, sl22, ty22, un22, sl31, ty31, un31, sl36, sl53, ty38, sl38, ty41, sl41, inR64, inRu64, inRu32, gs_laws_toFamily_11, at_laws_toIntS, lend_laws_toIntS, Try.f25]
  exact ⟨hp1, afin_of [3] rfl (by simp only [resL, resV, resC, getE, putE, getB, setB, lifts, liftOne, cellsOfB, List.length_cons, List.length_nil, List.nil_append, List.cons_append, Nat.reduceAdd, Nat.reduceEqDiff, ↓reduceIte, ty3, ty49, ty71, ty69, ty5, ty2, ty21, ty4, ty22, ty31, ty38, ty41]; rfl) (by simp [St.conv, St.bf, getE, putE, getB, cv, cvL, cvB, idx, still, pack, lifts, liftOne, cellsOfB, setB]) (by simp [St.conv, St.bf, getE, putE, getB, cv, cvL, cvB, idx, still, pack, lifts, liftOne, cellsOfB, setB])⟩
def lend_laws_toFamily : List Nat := []
def sp_laws_toFamily : List AV → List Bx → (AV → List Bx → Prop) → Prop
  | [.agg [.int .i64 n, .sl none (.ints .i64 xs)]], [], K => (xs.length ≤ 1099511627776) ∧ K (.agg [.int .i64 n, .ref 0 xs.length]) [.row 3 (.ints .i64 xs)]
  | _, _, _ => False
theorem at_laws_toFamily {n : Int} {xs : List Int} {K : AV → List Bx → Prop} : sp_laws_toFamily [.agg [.int .i64 n, .sl none (.ints .i64 xs)]] [] K = ((xs.length ≤ 1099511627776) ∧ K (.agg [.int .i64 n, .ref 0 xs.length]) [.row 3 (.ints .i64 xs)]) := id rfl
theorem ok_laws_toFamily : ∀ args giv K, sp_laws_toFamily args giv K → ∃ r outs, ARuns Try.prog 25 args giv r outs ∧ K r outs := by
  intro args giv K hk
  unfold sp_laws_toFamily at hk
  split at hk
  · obtain ⟨hp1, hk⟩ := hk; exact ⟨_, _, runs_laws_toFamily _ _ hp1, hk⟩
  · exact hk.elim
theorem is_laws_eqFamily : FnIs Try.prog 27 16 [.tmp 4] (Try.f27.body.getD .skip) := ⟨⟨Try.f27, by kernel_rfl, by kernel_rfl, by kernel_rfl, by kernel_rfl⟩, by kernel_rfl, by kernel_rfl⟩
def G_laws_eqFamily : Gm := (Gm.none.add 13 lend_laws_eqIntS sp_laws_eqIntS)
theorem G_laws_eqFamily_ok : G_laws_eqFamily.ok Try.prog := (Gm.add_ok Gm.none_ok ok_laws_eqIntS)
theorem gs_laws_eqFamily_13 : G_laws_eqFamily.sp 13 = sp_laws_eqIntS ∧ G_laws_eqFamily.lend 13 = lend_laws_eqIntS := ⟨rfl, rfl⟩
set_option maxHeartbeats 1000000 in
set_option maxRecDepth 100000 in
theorem runs_laws_eqFamily (n m : Int) (xs ys : List Int) : ARuns Try.prog 27 [.agg [.int .i64 n, .sl none (.ints .i64 xs)], .agg [.int .i64 m, .sl none (.ints .i64 ys)]] [] (.bool (decide (n = m) && decide (xs = ys))) [] := by
  refine ARuns_bc G_laws_eqFamily_ok is_laws_eqFamily (by simp) fun hl hlB => ?_
  simp only [kcode_at, kreg_at, bc_skip, bc_seq, bc_cond, bc_block, bc_exit, bc_ret, bc_region, lkX_cons, acond_tmp, aCase_t, aCase_f, aCase_b, afin_nil, cvE_some, resL, resV, resC, cv, cvL, pack, entryE, inPrm, Option.getD_some, acall_clo, add_sp, add_lend, kcall_nil, selOf, selC, selA, inArgs, inA, inL, okA, okL, okBx, okC, outA, outL, outU, outB, deep, deepL, boxIds, AV.bid, List.map_nil, List.map_cons, List.all_nil, List.all_cons, BEq.rfl, Bool.and_true, Bool.true_and, List.append_nil, aops_nil, aops_plain, aops_guard, kont_at, yes_at, no_at, aop_move, aop_assign, aop_pick, aop_alloc, aop_box, aop_build, aop_buildSlice, aop_load, aop_store, aop_nilCheck, aop_binOp, aop_unOp, aop_convert, aop_fieldAddr, aop_indexAddr, aop_slice, aop_extract, aop_makeSlice, aop_len, aop_max, aMax_int, slTy2, SC0, aop_append, aop_call, evalE, getE, putE, getB, setB, St.put, setsB, nth, AV.ofV, AV.blk, AV.bid, AV.one, SC.len, SC.get, List.length_nil, List.length_cons, Nat.reduceEqDiff, Nat.reduceAdd, ↓reduceIte, true_and, and_true, Bool.true_eq_false, Bool.false_eq_true, false_imp_iff, true_imp_iff, decide_eq_true_eq, Bool.not_eq_true', Bool.not_eq_false', decide_eq_false_iff_not, Option.isSome, List.nil_append, List.cons_append, aGuardO_some, aGuard_tt, aGuard_tf, aGuard_ft, aGuard_ff, aGuard_tb, aGuard_fb, aGuard_ts, aGuard_fs, aPick_b, aPick_t, aPick_f, aAlloc_one, aAlloc_flat, aBox_some, aBuild_flat, aInt_add, aBin_add, aInt_sub, aBin_sub, aInt_mul, aBin_mul, aInt_quo, aBin_quo, aInt_rem, aBin_rem, aInt_and, aBin_and, aInt_or, aBin_or, aInt_xor, aBin_xor, aInt_andNot, aBin_andNot, aInt_eql, aBin_eql, aInt_neq, aBin_neq, aInt_lss, aBin_lss, aInt_leq, aBin_leq, aInt_gtr, aBin_gtr, aInt_geq, aBin_geq, aBin_shl, aBin_shr, aShift_shl, aShift_shr, aBin_be1, aBin_bn1, aBin_be2, aBin_bn2, aBin_be3, aBin_bn3, aBin_be4, aBin_bn4, aBin_be5, aBin_bn5, aBin_be6, aBin_bn6, aBin_be7, aBin_bn7, aBin_be8, aBin_bn8, aBin_be9, aBin_bn9, aUn_b, aUn_t, aUn_f, aUn_i, aNil_ptr, aNil_pv, aConv_int, aField_ptr, aField_pv, aIdx_sl, aIdx_prm, aIdx_row, aIdx_drow, aMake_i, aMake_s, aExtr_tup, aLen_ref, aLen_nil, aLen_sl, aLen_prm, aLen_str, aBuildL_some, aBuildS_some, aLoad_1b, aLoad_1d, aLoad_fb, aLoad_fd, aLoad_1p, aLoad_fp, aLoad_ep, aLoad_rr, aLoad_rd, aStore_1, aStore_f, aStore_r, aApp_some, aAppend_nil, aAppend_ref, aSlice_h, aSlice_l, aSlice_lh, aop_slice3, aSlice3_r, aop_field, aFld_agg, aBinW_f, aBinW_t, aWrap_mul, aWrap_add, isW_tmp, isW_mulc, isW_addc, isW_sub, isW_quo, isW_rem, isW_and, isW_or, isW_xor, isW_andNot, isW_shl, isW_shr, isW_eql, isW_neq, isW_lss, isW_leq, isW_gtr, isW_geq, Int.reduceLT, aBinW_dF, aBinW_dT, bc_draw, kregD_at, aopsD_nil, aopsD_plain, aopsD_guard, kontD_at, contD_at, yesD_at, noD_at, splD_bool, splD_undef, splD_skip, splD_int, splD_tt, splD_ff, splD_str, splD_nil, splD_sl, splD_prm, splD_ref, splD_ptr, splD_rp, splD_ep, splD_pv, splD_agg, splD_tup, splD_clo, gD_tt, gD_tf, gD_ft, gD_ff, gD_ts, gD_fs, slotO_some, addTr_nil, addTr_cons, memQ_nil, memQ_cons, clash_nil, clash_cons, regC_none, regC_nil, regC_cons, regR_nil, regR_cons, Int.toNat_zero, Int.toNat_one, rng0, rng1, rng2, rng3, rng4, SC.take, SC.drop, mp_nil, acond_ct, acond_cf, mp_one0, mp_one1, mp_one2, mp_one3, kcall_one, liveB_row, liveB_box, idx, cont, still, dies, lend, lendA, lendDies, snocs, SC.snoc, SC.app, meet, AV.cells, fillA, List.getD_cons_zero, List.getD_cons_succ, List.set_cons_zero, List.set_cons_succ, List.length_singleton, Nat.le_refl, Nat.lt_irrefl, Nat.reduceLT, Nat.reduceLeDiff, Option.map_some, Option.map_none, List.flatMap_nil, List.flatMap_cons, Nat.zero_add, BEq.rfl, kcall_two, mp_two0, mp_two1, mp_two2, mp_two3, mp_two4, aop_makeFunc, plainA, Bool.true_and, sl3, ty3, un3, sl49, ty49, un49, sl71, ty71, un71, sl69, ty69, un69, sl5, ty5, un5, sl2, ty2, un2, sl21, ty21, un21, sl4, ty4, un4, sl9, un9, sl22, ty22, un22, sl31, ty31, un31, sl36, sl53, ty38, sl38, ty41, sl41, inR64, inRu64, inRu32, gs_laws_eqFamily_13, at_laws_eqIntS, lend_laws_eqIntS, Try.f27]
  refine ⟨fun h => by simp [h], fun h => ⟨fun h2 => by simp [h2], fun h2 => by simp [h, h2]⟩⟩
def lend_laws_eqFamily : List Nat := []
def sp_laws_eqFamily : List AV → List Bx → (AV → List Bx → Prop) → Prop
  | [.agg [.int .i64 n, .sl none (.ints .i64 xs)], .agg [.int .i64 m, .sl none (.ints .i64 ys)]], [], K => K (.bool (decide (n = m) && decide (xs = ys))) []
  | _, _, _ => False
theorem at_laws_eqFamily {n m : Int} {xs ys : List Int} {K : AV → List Bx → Prop} : sp_laws_eqFamily [.agg [.int .i64 n, .sl none (.ints .i64 xs)], .agg [.int .i64 m, .sl none (.ints .i64 ys)]] [] K = (K (.bool (decide (n = m) && decide (xs = ys))) []) := id rfl
theorem ok_laws_eqFamily : ∀ args giv K, sp_laws_eqFamily args giv K → ∃ r outs, ARuns Try.prog 27 args giv r outs ∧ K r outs := by
  intro args giv K hk
  unfold sp_laws_eqFamily at hk
  split at hk
  · exact ⟨_, _, runs_laws_eqFamily _ _ _ _ , hk⟩
  · exact hk.elim
theorem is_laws_markFamily : FnIs Try.prog 28 10 [.tmp 4] (Try.f28.body.getD .skip) := ⟨⟨Try.f28, by kernel_rfl, by kernel_rfl, by kernel_rfl, by kernel_rfl⟩, by kernel_rfl, by kernel_rfl⟩
def G_laws_markFamily : Gm := (Gm.none.add 16 lend_laws_markIntS sp_laws_markIntS)
theorem G_laws_markFamily_ok : G_laws_markFamily.ok Try.prog := (Gm.add_ok Gm.none_ok ok_laws_markIntS)
theorem gs_laws_markFamily_16 : G_laws_markFamily.sp 16 = sp_laws_markIntS ∧ G_laws_markFamily.lend 16 = lend_laws_markIntS := ⟨rfl, rfl⟩
set_option maxHeartbeats 1000000 in
set_option maxRecDepth 100000 in
theorem runs_laws_markFamily (m k : Int) (e : TypeId) (n : Nat) (xs : List Int) (hp1 : n = xs.length) (hp2 : 0 ≤ k ∧ k + xs.length ≤ 9223372036854775807) : ARuns Try.prog 28 [.agg [.int .i64 m, .ref 0 n], .int .i64 k] [.row e (.ints .i64 xs)] (.int .i64 (k + xs.length)) [.row e (.ints .i64 (iotaI k xs.length))] := by
  refine ARuns_bc G_laws_markFamily_ok is_laws_markFamily (by simp) fun hl hlB => ?_
  simp only [kcode_at, kreg_at, bc_skip, bc_seq, bc_cond, bc_block, bc_exit, bc_ret, bc_region, lkX_cons, acond_tmp, aCase_t, aCase_f, aCase_b, afin_nil, cvE_some, resL, resV, resC, cv, cvL, pack, entryE, inPrm, Option.getD_some, acall_clo, add_sp, add_lend, kcall_nil, selOf, selC, selA, inArgs, inA, inL, okA, okL, okBx, okC, outA, outL, outU, outB, deep, deepL, boxIds, AV.bid, List.map_nil, List.map_cons, List.all_nil, List.all_cons, BEq.rfl, Bool.and_true, Bool.true_and, List.append_nil, aops_nil, aops_plain, aops_guard, kont_at, yes_at, no_at, aop_move, aop_assign, aop_pick, aop_alloc, aop_box, aop_build, aop_buildSlice, aop_load, aop_store, aop_nilCheck, aop_binOp, aop_unOp, aop_convert, aop_fieldAddr, aop_indexAddr, aop_slice, aop_extract, aop_makeSlice, aop_len, aop_max, aMax_int, slTy2, SC0, aop_append, aop_call, evalE, getE, putE, getB, setB, St.put, setsB, nth, AV.ofV, AV.blk, AV.bid, AV.one, SC.len, SC.get, List.length_nil, List.length_cons, Nat.reduceEqDiff, Nat.reduceAdd, ↓reduceIte, true_and, and_true, Bool.true_eq_false, Bool.false_eq_true, false_imp_iff, true_imp_iff, decide_eq_true_eq, Bool.not_eq_true', Bool.not_eq_false', decide_eq_false_iff_not, Option.isSome, List.nil_append, List.cons_append, aGuardO_some, aGuard_tt, aGuard_tf, aGuard_ft, aGuard_ff, aGuard_tb, aGuard_fb, aGuard_ts, aGuard_fs, aPick_b, aPick_t, aPick_f, aAlloc_one, aAlloc_flat, aBox_some, aBuild_flat, aInt_add, aBin_add, aInt_sub, aBin_sub, aInt_mul, aBin_mul, aInt_quo, aBin_quo, aInt_rem, aBin_rem, aInt_and, aBin_and, aInt_or, aBin_or, aInt_xor, aBin_xor, aInt_andNot, aBin_andNot, aInt_eql, aBin_eql, aInt_neq, aBin_neq, aInt_lss, aBin_lss, aInt_leq, aBin_leq, aInt_gtr, aBin_gtr, aInt_geq, aBin_geq, aBin_shl, aBin_shr, aShift_shl, aShift_shr, aBin_be1, aBin_bn1, aBin_be2, aBin_bn2, aBin_be3, aBin_bn3, aBin_be4, aBin_bn4, aBin_be5, aBin_bn5, aBin_be6, aBin_bn6, aBin_be7, aBin_bn7, aBin_be8, aBin_bn8, aBin_be9, aBin_bn9, aUn_b, aUn_t, aUn_f, aUn_i, aNil_ptr, aNil_pv, aConv_int, aField_ptr, aField_pv, aIdx_sl, aIdx_prm, aIdx_row, aIdx_drow, aMake_i, aMake_s, aExtr_tup, aLen_ref, aLen_nil, aLen_sl, aLen_prm, aLen_str, aBuildL_some, aBuildS_some, aLoad_1b, aLoad_1d, aLoad_fb, aLoad_fd, aLoad_1p, aLoad_fp, aLoad_ep, aLoad_rr, aLoad_rd, aStore_1, aStore_f, aStore_r, aApp_some, aAppend_nil, aAppend_ref, aSlice_h, aSlice_l, aSlice_lh, aop_slice3, aSlice3_r, aop_field, aFld_agg, aBinW_f, aBinW_t, aWrap_mul, aWrap_add, isW_tmp, isW_mulc, isW_addc, isW_sub, isW_quo, isW_rem, isW_and, isW_or, isW_xor, isW_andNot, isW_shl, isW_shr, isW_eql, isW_neq, isW_lss, isW_leq, isW_gtr, isW_geq, Int.reduceLT, aBinW_dF, aBinW_dT, bc_draw, kregD_at, aopsD_nil, aopsD_plain, aopsD_guard, kontD_at, contD_at, yesD_at, noD_at, splD_bool, splD_undef, splD_skip, splD_int, splD_tt, splD_ff, splD_str, splD_nil, splD_sl, splD_prm, splD_ref, splD_ptr, splD_rp, splD_ep, splD_pv, splD_agg, splD_tup, splD_clo, gD_tt, gD_tf, gD_ft, gD_ff, gD_ts, gD_fs, slotO_some, addTr_nil, addTr_cons, memQ_nil, memQ_cons, clash_nil, clash_cons, regC_none, regC_nil, regC_cons, regR_nil, regR_cons, Int.toNat_zero, Int.toNat_one, rng0, rng1, rng2, rng3, rng4, SC.take, SC.drop, mp_nil, acond_ct, acond_cf, mp_one0, mp_one1, mp_one2, mp_one3, kcall_one, liveB_row, liveB_box, idx, cont, still, dies, lend, lendA, lendDies, snocs, SC.snoc, SC.app, meet, AV.cells, fillA, List.getD_cons_zero, List.getD_cons_succ, List.set_cons_zero, List.set_cons_succ, List.length_singleton, Nat.le_refl, Nat.lt_irrefl, Nat.reduceLT, Nat.reduceLeDiff, Option.map_some, Option.map_none, List.flatMap_nil, List.flatMap_cons, Nat.zero_add, BEq.rfl, kcall_two, mp_two0, mp_two1, mp_two2, mp_two3, mp_two4, aop_makeFunc, plainA, Bool.true_and, sl3, ty3, un3, sl49, ty49, un49, sl71, ty71, un71, sl69, ty69, un69, sl5, ty5, un5, sl2, ty2, un2, sl21, ty21, un21, sl4, ty4, un4, sl9, un9, sl22, ty22, un22, sl31, ty31, un31, sl36, sl53, ty38, sl38, ty41, sl41, inR64, inRu64, inRu32, gs_laws_markFamily_16, at_laws_markIntS, lend_laws_markIntS, Try.f28]
  subst hp1
  exact ⟨rfl, hp2, afin_of [0] rfl rfl (by simp [St.conv, St.bf, getE, putE, getB, cv, cvL, cvB, idx, still, pack, lifts, liftOne, cellsOfB, setB]) (by simp [St.conv, St.bf, getE, putE, getB, cv, cvL, cvB, idx, still, pack, lifts, liftOne, cellsOfB, setB])⟩
def lend_laws_markFamily : List Nat := [0]
def sp_laws_markFamily : List AV → List Bx → (AV → List Bx → Prop) → Prop
  | [.agg [.int .i64 m, .ref 0 n], .int .i64 k], [.row e (.ints .i64 xs)], K => (n = xs.length) ∧ (0 ≤ k ∧ k + xs.length ≤ 9223372036854775807) ∧ K (.int .i64 (k + xs.length)) [.row e (.ints .i64 (iotaI k xs.length))]
  | _, _, _ => False
theorem at_laws_markFamily {m k : Int} {e : TypeId} {n : Nat} {xs : List Int} {K : AV → List Bx → Prop} : sp_laws_markFamily [.agg [.int .i64 m, .ref 0 n], .int .i64 k] [.row e (.ints .i64 xs)] K = ((n = xs.length) ∧ (0 ≤ k ∧ k + xs.length ≤ 9223372036854775807) ∧ K (.int .i64 (k + xs.length)) [.row e (.ints .i64 (iotaI k xs.length))]) := id rfl
theorem ok_laws_markFamily : ∀ args giv K, sp_laws_markFamily args giv K → ∃ r outs, ARuns Try.prog 28 args giv r outs ∧ K r outs := by
  intro args giv K hk
  unfold sp_laws_markFamily at hk
  split at hk
  · obtain ⟨hp1, hp2, hk⟩ := hk; exact ⟨_, _, runs_laws_markFamily _ _ _ _ _ hp1 hp2, hk⟩
  · exact hk.elim
theorem is_spec_l1In : FnIs Try.prog 42 15 [.tmp 6] (Try.f42.body.getD .skip) := ⟨⟨Try.f42, by kernel_rfl, by kernel_rfl, by kernel_rfl, by kernel_rfl⟩, by kernel_rfl, by kernel_rfl⟩
def G_spec_l1In : Gm := Gm.none
theorem G_spec_l1In_ok : G_spec_l1In.ok Try.prog := Gm.none_ok
set_option maxHeartbeats 1000000 in
set_option maxRecDepth 100000 in
theorem runs_spec_l1In (n l m : Int) : ARuns Try.prog 42 [.int .i64 n, .int .i64 l, .int .i64 m] [] (.bool (inB n l m)) [] := by
  refine ARuns_bc G_spec_l1In_ok is_spec_l1In (by simp) fun hl hlB => ?_
  simp only [kcode_at, kreg_at, bc_skip, bc_seq, bc_cond, bc_block, bc_exit, bc_ret, bc_region, lkX_cons, acond_tmp, aCase_t, aCase_f, aCase_b, afin_nil, cvE_some, resL, resV, resC, cv, cvL, pack, entryE, inPrm, Option.getD_some, acall_clo, add_sp, add_lend, kcall_nil, selOf, selC, selA, inArgs, inA, inL, okA, okL, okBx, okC, outA, outL, outU, outB, deep, deepL, boxIds, AV.bid, List.map_nil, List.map_cons, List.all_nil, List.all_cons, BEq.rfl, Bool.and_true, Bool.true_and, List.append_nil, aops_nil, aops_plain, aops_guard, kont_at, yes_at, no_at, aop_move, aop_assign, aop_pick, aop_alloc, aop_box, aop_build, aop_buildSlice, aop_load, aop_store, aop_nilCheck, aop_binOp, aop_unOp, aop_convert, aop_fieldAddr, aop_indexAddr, aop_slice, aop_extract, aop_makeSlice, aop_len, aop_max, aMax_int, slTy2, SC0, aop_append, aop_call, evalE, getE, putE, getB, setB, St.put, setsB, nth, AV.ofV, AV.blk, AV.bid, AV.one, SC.len, SC.get, List.length_nil, List.length_cons, Nat.reduceEqDiff, Nat.reduceAdd, ↓reduceIte, true_and, and_true, Bool.true_eq_false, Bool.false_eq_true, false_imp_iff, true_imp_iff, decide_eq_true_eq, Bool.not_eq_true', Bool.not_eq_false', decide_eq_false_iff_not, Option.isSome, List.nil_append, List.cons_append, aGuardO_some, aGuard_tt, aGuard_tf, aGuard_ft, aGuard_ff, aGuard_tb, aGuard_fb, aGuard_ts, aGuard_fs, aPick_b, aPick_t, aPick_f, aAlloc_one, aAlloc_flat, aBox_some, aBuild_flat, aInt_add, aBin_add, aInt_sub, aBin_sub, aInt_mul, aBin_mul, aInt_quo, aBin_quo, aInt_rem, aBin_rem, aInt_and, aBin_and, aInt_or, aBin_or, aInt_xor, aBin_xor, aInt_andNot, aBin_andNot, aInt_eql, aBin_eql, aInt_neq, aBin_neq, aInt_lss, aBin_lss, aInt_leq, aBin_leq, aInt_gtr, aBin_gtr, aInt_geq, aBin_geq, aBin_shl, aBin_shr, aShift_shl, aShift_shr, aBin_be1, aBin_bn1, aBin_be2, aBin_bn2, aBin_be3, aBin_bn3, aBin_be4, aBin_bn4, aBin_be5, aBin_bn5, aBin_be6, aBin_bn6, aBin_be7, aBin_bn7, aBin_be8, aBin_bn8, aBin_be9, aBin_bn9, aUn_b, aUn_t, aUn_f, aUn_i, aNil_ptr, aNil_pv, aConv_int, aField_ptr, aField_pv, aIdx_sl, aIdx_prm, aIdx_row, aIdx_drow, aMake_i, aMake_s, aExtr_tup, aLen_ref, aLen_nil, aLen_sl, aLen_prm, aLen_str, aBuildL_some, aBuildS_some, aLoad_1b, aLoad_1d, aLoad_fb, aLoad_fd, aLoad_1p, aLoad_fp, aLoad_ep, aLoad_rr, aLoad_rd, aStore_1, aStore_f, aStore_r, aApp_some, aAppend_nil, aAppend_ref, aSlice_h, aSlice_l, aSlice_lh, aop_slice3, aSlice3_r, aop_field, aFld_agg, aBinW_f, aBinW_t, aWrap_mul, aWrap_add, isW_tmp, isW_mulc, isW_addc, isW_sub, isW_quo, isW_rem, isW_and, isW_or, isW_xor, isW_andNot, isW_shl, isW_shr, isW_eql, isW_neq, isW_lss, isW_leq, isW_gtr, isW_geq, Int.reduceLT, aBinW_dF, aBinW_dT, bc_draw, kregD_at, aopsD_nil, aopsD_plain, aopsD_guard, kontD_at, contD_at, yesD_at, noD_at, splD_bool, splD_undef, splD_skip, splD_int, splD_tt, splD_ff, splD_str, splD_nil, splD_sl, splD_prm, splD_ref, splD_ptr, splD_rp, splD_ep, splD_pv, splD_agg, splD_tup, splD_clo, gD_tt, gD_tf, gD_ft, gD_ff, gD_ts, gD_fs, slotO_some, addTr_nil, addTr_cons, memQ_nil, memQ_cons, clash_nil, clash_cons, regC_none, regC_nil, regC_cons, regR_nil, regR_cons, Int.toNat_zero, Int.toNat_one, rng0, rng1, rng2, rng3, rng4, SC.take, SC.drop, mp_nil, acond_ct, acond_cf, mp_one0, mp_one1, mp_one2, mp_one3, kcall_one, liveB_row, liveB_box, idx, cont, still, dies, lend, lendA, lendDies, snocs, SC.snoc, SC.app, meet, AV.cells, fillA, List.getD_cons_zero, List.getD_cons_succ, List.set_cons_zero, List.set_cons_succ, List.length_singleton, Nat.le_refl, Nat.lt_irrefl, Nat.reduceLT, Nat.reduceLeDiff, Option.map_some, Option.map_none, List.flatMap_nil, List.flatMap_cons, Nat.zero_add, BEq.rfl, kcall_two, mp_two0, mp_two1, mp_two2, mp_two3, mp_two4, aop_makeFunc, plainA, Bool.true_and, sl3, ty3, un3, sl49, ty49, un49, sl71, ty71, un71, sl69, ty69, un69, sl5, ty5, un5, sl2, ty2, un2, sl21, ty21, un21, sl4, ty4, un4, sl9, un9, sl22, ty22, un22, sl31, ty31, un31, sl36, sl53, ty38, sl38, ty41, sl41, inR64, inRu64, inRu32, Try.f42]
  refine ⟨fun h => ?_, fun h => ?_⟩ <;> simp [h, inB]
def lend_spec_l1In : List Nat := []
def sp_spec_l1In : List AV → List Bx → (AV → List Bx → Prop) → Prop
  | [.int .i64 n, .int .i64 l, .int .i64 m], [], K => K (.bool (inB n l m)) []
  | _, _, _ => False
theorem at_spec_l1In {n l m : Int} {K : AV → List Bx → Prop} : sp_spec_l1In [.int .i64 n, .int .i64 l, .int .i64 m] [] K = (K (.bool (inB n l m)) []) := id rfl
theorem ok_spec_l1In : ∀ args giv K, sp_spec_l1In args giv K → ∃ r outs, ARuns Try.prog 42 args giv r outs ∧ K r outs := by
  intro args giv K hk
  unfold sp_spec_l1In at hk
  split at hk
  · exact ⟨_, _, runs_spec_l1In _ _ _ , hk⟩
  · exact hk.elim
theorem is_spec_l2Full : FnIs Try.prog 57 6 [.tmp 2] (Try.f57.body.getD .skip) := ⟨⟨Try.f57, by kernel_rfl, by kernel_rfl, by kernel_rfl, by kernel_rfl⟩, by kernel_rfl, by kernel_rfl⟩
def G_spec_l2Full : Gm := Gm.none
theorem G_spec_l2Full_ok : G_spec_l2Full.ok Try.prog := Gm.none_ok
set_option maxHeartbeats 1000000 in
set_option maxRecDepth 100000 in
theorem runs_spec_l2Full (n : Int) (hp1 : 0 ≤ n ∧ n ≤ 10) : ARuns Try.prog 57 [.int .i64 n] [] (.int .i64 (fullI n)) [] := by
  refine ARuns_bc G_spec_l2Full_ok is_spec_l2Full (by simp) fun hl hlB => ?_
  simp only [kcode_at, kreg_at, bc_skip, bc_seq, bc_cond, bc_block, bc_exit, bc_ret, bc_region, lkX_cons, acond_tmp, aCase_t, aCase_f, aCase_b, afin_nil, cvE_some, resL, resV, resC, cv, cvL, pack, entryE, inPrm, Option.getD_some, acall_clo, add_sp, add_lend, kcall_nil, selOf, selC, selA, inArgs, inA, inL, okA, okL, okBx, okC, outA, outL, outU, outB, deep, deepL, boxIds, AV.bid, List.map_nil, List.map_cons, List.all_nil, List.all_cons, BEq.rfl, Bool.and_true, Bool.true_and, List.append_nil, aops_nil, aops_plain, aops_guard, kont_at, yes_at, no_at, aop_move, aop_assign, aop_pick, aop_alloc, aop_box, aop_build, aop_buildSlice, aop_load, aop_store, aop_nilCheck, aop_binOp, aop_unOp, aop_convert, aop_fieldAddr, aop_indexAddr, aop_slice, aop_extract, aop_makeSlice, aop_len, aop_max, aMax_int, slTy2, SC0, aop_append, aop_call, evalE, getE, putE, getB, setB, St.put, setsB, nth, AV.ofV, AV.blk, AV.bid, AV.one, SC.len, SC.get, List.length_nil, List.length_cons, Nat.reduceEqDiff, Nat.reduceAdd, ↓reduceIte, true_and, and_true, Bool.true_eq_false, Bool.false_eq_true, false_imp_iff, true_imp_iff, decide_eq_true_eq, Bool.not_eq_true', Bool.not_eq_false', decide_eq_false_iff_not, Option.isSome, List.nil_append, List.cons_append, aGuardO_some, aGuard_tt, aGuard_tf, aGuard_ft, aGuard_ff, aGuard_tb, aGuard_fb, aGuard_ts, aGuard_fs, aPick_b, aPick_t, aPick_f, aAlloc_one, aAlloc_flat, aBox_some, aBuild_flat, aInt_add, aBin_add, aInt_sub, aBin_sub, aInt_mul, aBin_mul, aInt_quo, aBin_quo, aInt_rem, aBin_rem, aInt_and, aBin_and, aInt_or, aBin_or, aInt_xor, aBin_xor, aInt_andNot, aBin_andNot, aInt_eql, aBin_eql, aInt_neq, aBin_neq, aInt_lss, aBin_lss, aInt_leq, aBin_leq, aInt_gtr, aBin_gtr, aInt_geq, aBin_geq, aBin_shl, aBin_shr, aShift_shl, aShift_shr, aBin_be1, aBin_bn1, aBin_be2, aBin_bn2, aBin_be3, aBin_bn3, aBin_be4, aBin_bn4, aBin_be5, aBin_bn5, aBin_be6, aBin_bn6, aBin_be7, aBin_bn7, aBin_be8, aBin_bn8, aBin_be9, aBin_bn9, aUn_b, aUn_t, aUn_f, aUn_i, aNil_ptr, aNil_pv, aConv_int, aField_ptr, aField_pv, aIdx_sl, aIdx_prm, aIdx_row, aIdx_drow, aMake_i, aMake_s, aExtr_tup, aLen_ref, aLen_nil, aLen_sl, aLen_prm, aLen_str, aBuildL_some, aBuildS_some, aLoad_1b, aLoad_1d, aLoad_fb, aLoad_fd, aLoad_1p, aLoad_fp, aLoad_ep, aLoad_rr, aLoad_rd, aStore_1, aStore_f, aStore_r, aApp_some, aAppend_nil, aAppend_ref, aSlice_h, aSlice_l, aSlice_lh, aop_slice3, aSlice3_r, aop_field, aFld_agg, aBinW_f, aBinW_t, aWrap_mul, aWrap_add, isW_tmp, isW_mulc, isW_addc, isW_sub, isW_quo, isW_rem, isW_and, isW_or, isW_xor, isW_andNot, isW_shl, isW_shr, isW_eql, isW_neq, isW_lss, isW_leq, isW_gtr, isW_geq, Int.reduceLT, aBinW_dF, aBinW_dT, bc_draw, kregD_at, aopsD_nil, aopsD_plain, aopsD_guard, kontD_at, contD_at, yesD_at, noD_at, splD_bool, splD_undef, splD_skip, splD_int, splD_tt, splD_ff, splD_str, splD_nil, splD_sl, splD_prm, splD_ref, splD_ptr, splD_rp, splD_ep, splD_pv, splD_agg, splD_tup, splD_clo, gD_tt, gD_tf, gD_ft, gD_ff, gD_ts, gD_fs, slotO_some, addTr_nil, addTr_cons, memQ_nil, memQ_cons, clash_nil, clash_cons, regC_none, regC_nil, regC_cons, regR_nil, regR_cons, Int.toNat_zero, Int.toNat_one, rng0, rng1, rng2, rng3, rng4, SC.take, SC.drop, mp_nil, acond_ct, acond_cf, mp_one0, mp_one1, mp_one2, mp_one3, kcall_one, liveB_row, liveB_box, idx, cont, still, dies, lend, lendA, lendDies, snocs, SC.snoc, SC.app, meet, AV.cells, fillA, List.getD_cons_zero, List.getD_cons_succ, List.set_cons_zero, List.set_cons_succ, List.length_singleton, Nat.le_refl, Nat.lt_irrefl, Nat.reduceLT, Nat.reduceLeDiff, Option.map_some, Option.map_none, List.flatMap_nil, List.flatMap_cons, Nat.zero_add, BEq.rfl, kcall_two, mp_two0, mp_two1, mp_two2, mp_two3, mp_two4, aop_makeFunc, plainA, Bool.true_and, sl3, ty3, un3, sl49, ty49, un49, sl71, ty71, un71, sl69, ty69, un69, sl5, ty5, un5, sl2, ty2, un2, sl21, ty21, un21, sl4, ty4, un4, sl9, un9, sl22, ty22, un22, sl31, ty31, un31, sl36, sl53, ty38, sl38, ty41, sl41, inR64, inRu64, inRu32, Try.f57]
  have h := full_bd hp1
  have e : 1 * 2 ^ n.toNat - 1 = fullI n := by unfold fullI; omega
  have e2 : (1 : Int) * 2 ^ n.toNat = fullI n + 1 := by omega
  simp only [IntKind.bits]
  rw [e, e2]
  (repeat' (first | apply And.intro | intro _)) <;> try (first | omega | trivial)
def lend_spec_l2Full : List Nat := []
def sp_spec_l2Full : List AV → List Bx → (AV → List Bx → Prop) → Prop
  | [.int .i64 n], [], K => (0 ≤ n ∧ n ≤ 10) ∧ K (.int .i64 (fullI n)) []
  | _, _, _ => False
theorem at_spec_l2Full {n : Int} {K : AV → List Bx → Prop} : sp_spec_l2Full [.int .i64 n] [] K = ((0 ≤ n ∧ n ≤ 10) ∧ K (.int .i64 (fullI n)) []) := id rfl
theorem ok_spec_l2Full : ∀ args giv K, sp_spec_l2Full args giv K → ∃ r outs, ARuns Try.prog 57 args giv r outs ∧ K r outs := by
  intro args giv K hk
  unfold sp_spec_l2Full at hk
  split at hk
  · obtain ⟨hp1, hk⟩ := hk; exact ⟨_, _, runs_spec_l2Full _ hp1, hk⟩
  · exact hk.elim
theorem is_spec_IsFamily : FnIs Try.prog 46 43 [.tmp 2] (Try.f46.body.getD .skip) := ⟨⟨Try.f46, by kernel_rfl, by kernel_rfl, by kernel_rfl, by kernel_rfl⟩, by kernel_rfl, by kernel_rfl⟩
def G_spec_IsFamily : Gm := ((Gm.none.add 42 lend_spec_l1In sp_spec_l1In).add 57 lend_spec_l2Full sp_spec_l2Full)
theorem G_spec_IsFamily_ok : G_spec_IsFamily.ok Try.prog := (Gm.add_ok (Gm.add_ok Gm.none_ok ok_spec_l1In) ok_spec_l2Full)
theorem gs_spec_IsFamily_42 : G_spec_IsFamily.sp 42 = sp_spec_l1In ∧ G_spec_IsFamily.lend 42 = lend_spec_l1In := ⟨rfl, rfl⟩
theorem gs_spec_IsFamily_57 : G_spec_IsFamily.sp 57 = sp_spec_l2Full ∧ G_spec_IsFamily.lend 57 = lend_spec_l2Full := ⟨rfl, rfl⟩
set_option maxHeartbeats 1000000 in
set_option maxRecDepth 100000 in
theorem runs_spec_IsFamily (n : Int) (xs : List Int) : ARuns Try.prog 46 [.agg [.int .i64 n, .sl none (.ints .i64 xs)]] [] (.bool (famB n xs)) [] := by
  refine ARuns_bc G_spec_IsFamily_ok is_spec_IsFamily (by simp) fun hl hlB => ?_
  simp only [kcode_at, kreg_at, bc_skip, bc_seq, bc_cond, bc_block, bc_exit, bc_ret, bc_region, lkX_cons, acond_tmp, aCase_t, aCase_f, aCase_b, afin_nil, cvE_some, resL, resV, resC, cv, cvL, pack, entryE, inPrm, Option.getD_some, acall_clo, add_sp, add_lend, kcall_nil, selOf, selC, selA, inArgs, inA, inL, okA, okL, okBx, okC, outA, outL, outU, outB, deep, deepL, boxIds, AV.bid, List.map_nil, List.map_cons, List.all_nil, List.all_cons, BEq.rfl, Bool.and_true, Bool.true_and, List.append_nil, aops_nil, aops_plain, aops_guard, kont_at, yes_at, no_at, aop_move, aop_assign, aop_pick, aop_alloc, aop_box, aop_build, aop_buildSlice, aop_load, aop_store, aop_nilCheck, aop_binOp, aop_unOp, aop_convert, aop_fieldAddr, aop_indexAddr, aop_slice, aop_extract, aop_makeSlice, aop_len, aop_max, aMax_int, slTy2, SC0, aop_append, aop_call, evalE, getE, putE, getB, setB, St.put, setsB, nth, AV.ofV, AV.blk, AV.bid, AV.one, SC.len, SC.get, List.length_nil, List.length_cons, Nat.reduceEqDiff, Nat.reduceAdd, ↓reduceIte, true_and, and_true, Bool.true_eq_false, Bool.false_eq_true, false_imp_iff, true_imp_iff, decide_eq_true_eq, Bool.not_eq_true', Bool.not_eq_false', decide_eq_false_iff_not, Option.isSome, List.nil_append, List.cons_append, aGuardO_some, aGuard_tt, aGuard_tf, aGuard_ft, aGuard_ff, aGuard_tb, aGuard_fb, aGuard_ts, aGuard_fs, aPick_b, aPick_t, aPick_f, aAlloc_one, aAlloc_flat, aBox_some, aBuild_flat, aInt_add, aBin_add, aInt_sub, aBin_sub, aInt_mul, aBin_mul, aInt_quo, aBin_quo, aInt_rem, aBin_rem, aInt_and, aBin_and, aInt_or, aBin_or, aInt_xor, aBin_xor, aInt_andNot, aBin_andNot, aInt_eql, aBin_eql, aInt_neq, aBin_neq, aInt_lss, aBin_lss, aInt_leq, aBin_leq, aInt_gtr, aBin_gtr, aInt_geq, aBin_geq, aBin_shl, aBin_shr, aShift_shl, aShift_shr, aBin_be1, aBin_bn1, aBin_be2, aBin_bn2, aBin_be3, aBin_bn3, aBin_be4, aBin_bn4, aBin_be5, aBin_bn5, aBin_be6, aBin_bn6, aBin_be7, aBin_bn7, aBin_be8, aBin_bn8, aBin_be9, aBin_bn9, aUn_b, aUn_t, aUn_f, aUn_i, aNil_ptr, aNil_pv, aConv_int, aField_ptr, aField_pv, aIdx_sl, aIdx_prm, aIdx_row, aIdx_drow, aMake_i, aMake_s, aExtr_tup, aLen_ref, aLen_nil, aLen_sl, aLen_prm, aLen_str, aBuildL_some, aBuildS_some, aLoad_1b, aLoad_1d, aLoad_fb, aLoad_fd, aLoad_1p, aLoad_fp, aLoad_ep, aLoad_rr, aLoad_rd, aStore_1, aStore_f, aStore_r, aApp_some, aAppend_nil, aAppend_ref, aSlice_h, aSlice_l, aSlice_lh, aop_slice3, aSlice3_r, aop_field, aFld_agg, aBinW_f, aBinW_t, aWrap_mul, aWrap_add, isW_tmp, isW_mulc, isW_addc, isW_sub, isW_quo, isW_rem, isW_and, isW_or, isW_xor, isW_andNot, isW_shl, isW_shr, isW_eql, isW_neq, isW_lss, isW_leq, isW_gtr, isW_geq, Int.reduceLT, aBinW_dF, aBinW_dT, bc_draw, kregD_at, aopsD_nil, aopsD_plain, aopsD_guard, kontD_at, contD_at, yesD_at, noD_at, splD_bool, splD_undef, splD_skip, splD_int, splD_tt, splD_ff, splD_str, splD_nil, splD_sl, splD_prm, splD_ref, splD_ptr, splD_rp, splD_ep, splD_pv, splD_agg, splD_tup, splD_clo, gD_tt, gD_tf, gD_ft, gD_ff, gD_ts, gD_fs, slotO_some, addTr_nil, addTr_cons, memQ_nil, memQ_cons, clash_nil, clash_cons, regC_none, regC_nil, regC_cons, regR_nil, regR_cons, Int.toNat_zero, Int.toNat_one, rng0, rng1, rng2, rng3, rng4, SC.take, SC.drop, mp_nil, acond_ct, acond_cf, mp_one0, mp_one1, mp_one2, mp_one3, kcall_one, liveB_row, liveB_box, idx, cont, still, dies, lend, lendA, lendDies, snocs, SC.snoc, SC.app, meet, AV.cells, fillA, List.getD_cons_zero, List.getD_cons_succ, List.set_cons_zero, List.set_cons_succ, List.length_singleton, Nat.le_refl, Nat.lt_irrefl, Nat.reduceLT, Nat.reduceLeDiff, Option.map_some, Option.map_none, List.flatMap_nil, List.flatMap_cons, Nat.zero_add, BEq.rfl, kcall_two, mp_two0, mp_two1, mp_two2, mp_two3, mp_two4, aop_makeFunc, plainA, Bool.true_and, sl3, ty3, un3, sl49, ty49, un49, sl71, ty71, un71, sl69, ty69, un69, sl5, ty5, un5, sl2, ty2, un2, sl21, ty21, un21, sl4, ty4, un4, sl9, un9, sl22, ty22, un22, sl31, ty31, un31, sl36, sl53, ty38, sl38, ty41, sl41, inR64, inRu64, inRu32, gs_spec_IsFamily_42, at_spec_l1In, lend_spec_l1In, gs_spec_IsFamily_57, at_spec_l2Full, lend_spec_l2Full, Try.f46]
  simp only [lensA, lenA, lenSC] at hl
  refine ⟨fun h => by rw [famB, setsOk, h]; rfl, fun hn => ?_⟩
  have hb := hn
  rw [inB_t] at hb
  refine bc_loop (fun i : Nat => i ≤ xs.length ∧ (∀ k, k < i → inS n (xs.getD k 0) = true) ∧ ∀ k, k < i → ascAt xs k = true)
    (fun i => ⟨[(1, .ptr 0 0), (3, .int .i64 i)], [.box [.int .i64 n, .sl none (.ints .i64 xs)]]⟩) (fun i => xs.length - i)
    [1, 3] [0] 0 rfl (by simp [St.conv, St.bf, getE, putE, getB, cv, cvL, cvB, idx, still, pack, lifts, liftOne, cellsOfB, setB]) (by simp) fun i ⟨h1, h2, h3⟩ => ?_
  simp only [kcode_at, kreg_at, bc_skip, bc_seq, bc_cond, bc_block, bc_exit, bc_ret, bc_region, lkX_cons, acond_tmp, aCase_t, aCase_f, aCase_b, afin_nil, cvE_some, resL, resV, resC, cv, cvL, pack, entryE, inPrm, Option.getD_some, acall_clo, add_sp, add_lend, kcall_nil, selOf, selC, selA, inArgs, inA, inL, okA, okL, okBx, okC, outA, outL, outU, outB, deep, deepL, boxIds, AV.bid, List.map_nil, List.map_cons, List.all_nil, List.all_cons, BEq.rfl, Bool.and_true, Bool.true_and, List.append_nil, aops_nil, aops_plain, aops_guard, kont_at, yes_at, no_at, aop_move, aop_assign, aop_pick, aop_alloc, aop_box, aop_build, aop_buildSlice, aop_load, aop_store, aop_nilCheck, aop_binOp, aop_unOp, aop_convert, aop_fieldAddr, aop_indexAddr, aop_slice, aop_extract, aop_makeSlice, aop_len, aop_max, aMax_int, slTy2, SC0, aop_append, aop_call, evalE, getE, putE, getB, setB, St.put, setsB, nth, AV.ofV, AV.blk, AV.bid, AV.one, SC.len, SC.get, List.length_nil, List.length_cons, Nat.reduceEqDiff, Nat.reduceAdd, ↓reduceIte, true_and, and_true, Bool.true_eq_false, Bool.false_eq_true, false_imp_iff, true_imp_iff, decide_eq_true_eq, Bool.not_eq_true', Bool.not_eq_false', decide_eq_false_iff_not, Option.isSome, List.nil_append, List.cons_append, aGuardO_some, aGuard_tt, aGuard_tf, aGuard_ft, aGuard_ff, aGuard_tb, aGuard_fb, aGuard_ts, aGuard_fs, aPick_b, aPick_t, aPick_f, aAlloc_one, aAlloc_flat, aBox_some, aBuild_flat, aInt_add, aBin_add, aInt_sub, aBin_sub, aInt_mul, aBin_mul, aInt_quo, aBin_quo, aInt_rem, aBin_rem, aInt_and, aBin_and, aInt_or, aBin_or, aInt_xor, aBin_xor, aInt_andNot, aBin_andNot, aInt_eql, aBin_eql, aInt_neq, aBin_neq, aInt_lss, aBin_lss, aInt_leq, aBin_leq, aInt_gtr, aBin_gtr, aInt_geq, aBin_geq, aBin_shl, aBin_shr, aShift_shl, aShift_shr, aBin_be1, aBin_bn1, aBin_be2, aBin_bn2, aBin_be3, aBin_bn3, aBin_be4, aBin_bn4, aBin_be5, aBin_bn5, aBin_be6, aBin_bn6, aBin_be7, aBin_bn7, aBin_be8, aBin_bn8, aBin_be9, aBin_bn9, aUn_b, aUn_t, aUn_f, aUn_i, aNil_ptr, aNil_pv, aConv_int, aField_ptr, aField_pv, aIdx_sl, aIdx_prm, aIdx_row, aIdx_drow, aMake_i, aMake_s, aExtr_tup, aLen_ref, aLen_nil, aLen_sl, aLen_prm, aLen_str, aBuildL_some, aBuildS_some, aLoad_1b, aLoad_1d, aLoad_fb, aLoad_fd, aLoad_1p, aLoad_fp, aLoad_ep, aLoad_rr, aLoad_rd, aStore_1, aStore_f, aStore_r, aApp_some, aAppend_nil, aAppend_ref, aSlice_h, aSlice_l, aSlice_lh, aop_slice3, aSlice3_r, aop_field, aFld_agg, aBinW_f, aBinW_t, aWrap_mul, aWrap_add, isW_tmp, isW_mulc, isW_addc, isW_sub, isW_quo, isW_rem, isW_and, isW_or, isW_xor, isW_andNot, isW_shl, isW_shr, isW_eql, isW_neq, isW_lss, isW_leq, isW_gtr, isW_geq, Int.reduceLT, aBinW_dF, aBinW_dT, bc_draw, kregD_at, aopsD_nil, aopsD_plain, aopsD_guard, kontD_at, contD_at, yesD_at, noD_at, splD_bool, splD_undef, splD_skip, splD_int, splD_tt, splD_ff, splD_str, splD_nil, splD_sl, splD_prm, splD_ref, splD_ptr, splD_rp, splD_ep, splD_pv, splD_agg, splD_tup, splD_clo, gD_tt, gD_tf, gD_ft, gD_ff, gD_ts, gD_fs, slotO_some, addTr_nil, addTr_cons, memQ_nil, memQ_cons, clash_nil, clash_cons, regC_none, regC_nil, regC_cons, regR_nil, regR_cons, Int.toNat_zero, Int.toNat_one, rng0, rng1, rng2, rng3, rng4, SC.take, SC.drop, mp_nil, acond_ct, acond_cf, mp_one0, mp_one1, mp_one2, mp_one3, kcall_one, liveB_row, liveB_box, idx, cont, still, dies, lend, lendA, lendDies, snocs, SC.snoc, SC.app, meet, AV.cells, fillA, List.getD_cons_zero, List.getD_cons_succ, List.set_cons_zero, List.set_cons_succ, List.length_singleton, Nat.le_refl, Nat.lt_irrefl, Nat.reduceLT, Nat.reduceLeDiff, Option.map_some, Option.map_none, List.flatMap_nil, List.flatMap_cons, Nat.zero_add, BEq.rfl, kcall_two, mp_two0, mp_two1, mp_two2, mp_two3, mp_two4, aop_makeFunc, plainA, Bool.true_and, sl3, ty3, un3, sl49, ty49, un49, sl71, ty71, un71, sl69, ty69, un69, sl5, ty5, un5, sl2, ty2, un2, sl21, ty21, un21, sl4, ty4, un4, sl9, un9, sl22, ty22, un22, sl31, ty31, un31, sl36, sl53, ty38, sl38, ty41, sl41, inR64, inRu64, inRu32, gs_spec_IsFamily_42, at_spec_l1In, lend_spec_l1In, gs_spec_IsFamily_57, at_spec_l2Full, lend_spec_l2Full, Int.toNat_natCast]
  have e0 : ((i : Int) - 1).toNat = i - 1 := by omega
  rw [e0]
  have no1 : i < xs.length → inS n (xs.getD i 0) = false → famB n xs = false := fun hi hf => by rw [famB, setsOk, allN_f i hi hf]; simp
  have no2 : i < xs.length → ¬ ascAt xs i = true → famB n xs = false := fun hi hf => by rw [famB, allN_f i hi (by simpa using hf)]; simp
  have nx : i < xs.length → inS n (xs.getD i 0) = true → ascAt xs i = true → i + 1 ≤ xs.length ∧ (∀ k, k < i + 1 → inS n (xs.getD k 0) = true) ∧ ∀ k, k < i + 1 → ascAt xs k = true := fun a b c => ⟨by omega, upto_succ h2 b, upto_succ h3 c⟩
  refine ⟨fun hi => ⟨by omega, by omega, fun hs => ⟨fun h0 => ⟨by omega, by omega, by omega, fun hle => ?_, fun hle => ⟨by omega, ?_⟩⟩, fun h0 => ⟨by omega, ?_⟩⟩, fun hs => ?_⟩, fun hi => ?_⟩
  · rw [no2 (by omega) (by rw [ascAt_iff]; omega)]
  · exact klp_of (i + 1) (by simp [St.conv, St.bf, getE, putE, getB, cv, cvL, cvB, idx, still, pack, lifts, liftOne, cellsOfB, setB]) (nx (by omega) hs (by rw [ascAt_iff]; omega)) (by omega)
  · exact klp_of (i + 1) (by simp [St.conv, St.bf, getE, putE, getB, cv, cvL, cvB, idx, still, pack, lifts, liftOne, cellsOfB, setB]) (nx (by omega) hs (by rw [ascAt_iff]; omega)) (by omega)
  · rw [no1 (by omega) hs]
  · have : i = xs.length := by omega
    subst this
    rw [famB, setsOk, hn, allN_t h2, allN_t h3]; rfl
def lend_spec_IsFamily : List Nat := []
def sp_spec_IsFamily : List AV → List Bx → (AV → List Bx → Prop) → Prop
  | [.agg [.int .i64 n, .sl none (.ints .i64 xs)]], [], K => K (.bool (famB n xs)) []
  | _, _, _ => False
theorem at_spec_IsFamily {n : Int} {xs : List Int} {K : AV → List Bx → Prop} : sp_spec_IsFamily [.agg [.int .i64 n, .sl none (.ints .i64 xs)]] [] K = (K (.bool (famB n xs)) []) := id rfl
theorem ok_spec_IsFamily : ∀ args giv K, sp_spec_IsFamily args giv K → ∃ r outs, ARuns Try.prog 46 args giv r outs ∧ K r outs := by
  intro args giv K hk
  unfold sp_spec_IsFamily at hk
  split at hk
  · exact ⟨_, _, runs_spec_IsFamily _ _ , hk⟩
  · exact hk.elim
theorem is_spec_l8Orders : FnIs Try.prog 53 49 [.tmp 4] (Try.f53.body.getD .skip) := ⟨⟨Try.f53, by kernel_rfl, by kernel_rfl, by kernel_rfl, by kernel_rfl⟩, by kernel_rfl, by kernel_rfl⟩
def lend_spec_l8Orders : List Nat := [1]
def spR_spec_l8Orders (N : Nat) : List AV → List Bx → (AV → List Bx → Prop) → Prop
  | [.int .i64 n, .ref 0 m], [.row 3 (.ints .i64 p)], K => (n.toNat - p.length < N) ∧ (0 ≤ n ∧ n ≤ 6) ∧ (m = p.length) ∧ (p.length ≤ n.toNat) ∧ ((p.length = n.toNat) → K (.ref 1 (ordL n.toNat (n.toNat - p.length) p).length) [.gone, .row 22 (.rows (some 3) (ordL n.toNat (n.toNat - p.length) p))]) ∧ ((¬ p.length = n.toNat) → K (.ref 1 (ordL n.toNat (n.toNat - p.length) p).length) [.gone, .row 22 (.rows (some 3) (ordL n.toNat (n.toNat - p.length) p))])
  | _, _, _ => False
theorem atR_spec_l8Orders {N : Nat} {n : Int} {p : List Int} {m : Nat} {K : AV → List Bx → Prop} : spR_spec_l8Orders N [.int .i64 n, .ref 0 m] [.row 3 (.ints .i64 p)] K = ((n.toNat - p.length < N) ∧ (0 ≤ n ∧ n ≤ 6) ∧ (m = p.length) ∧ (p.length ≤ n.toNat) ∧ ((p.length = n.toNat) → K (.ref 1 (ordL n.toNat (n.toNat - p.length) p).length) [.gone, .row 22 (.rows (some 3) (ordL n.toNat (n.toNat - p.length) p))]) ∧ ((¬ p.length = n.toNat) → K (.ref 1 (ordL n.toNat (n.toNat - p.length) p).length) [.gone, .row 22 (.rows (some 3) (ordL n.toNat (n.toNat - p.length) p))])) := id rfl
def G_spec_l8Orders (N : Nat) : Gm := Gm.none.add 53 lend_spec_l8Orders (spR_spec_l8Orders N)
theorem gs_spec_l8Orders_53 {N : Nat} : (G_spec_l8Orders N).sp 53 = spR_spec_l8Orders N ∧ (G_spec_l8Orders N).lend 53 = lend_spec_l8Orders := ⟨rfl, rfl⟩
set_option maxHeartbeats 1000000 in
set_option maxRecDepth 100000 in
theorem runs_spec_l8Orders_1_st {N : Nat} (hok : (G_spec_l8Orders N).ok Try.prog) (n : Int) (p : List Int) (m : Nat) (hp1 : 0 ≤ n ∧ n ≤ 6) (hp2 : m = p.length) (hp3 : p.length ≤ n.toNat) (hc : p.length = n.toNat) (hm : n.toNat - p.length = N) : ARuns Try.prog 53 [.int .i64 n, .ref 0 m] [.row 3 (.ints .i64 p)] (.ref 1 (ordL n.toNat (n.toNat - p.length) p).length) [.gone, .row 22 (.rows (some 3) (ordL n.toNat (n.toNat - p.length) p))] := by
  subst hm
  refine ARuns_gone1 (.drow 3 (.ints .i64 p)) <| ARuns_bc hok is_spec_l8Orders (by simp) fun hl hlB => ?_
  simp only [kcode_at, kreg_at, bc_skip, bc_seq, bc_cond, bc_block, bc_exit, bc_ret, bc_region, lkX_cons, acond_tmp, aCase_t, aCase_f, aCase_b, afin_nil, cvE_some, resL, resV, resC, cv, cvL, pack, entryE, inPrm, Option.getD_some, acall_clo, add_sp, add_lend, kcall_nil, selOf, selC, selA, inArgs, inA, inL, okA, okL, okBx, okC, outA, outL, outU, outB, deep, deepL, boxIds, AV.bid, List.map_nil, List.map_cons, List.all_nil, List.all_cons, BEq.rfl, Bool.and_true, Bool.true_and, List.append_nil, aops_nil, aops_plain, aops_guard, kont_at, yes_at, no_at, aop_move, aop_assign, aop_pick, aop_alloc, aop_box, aop_build, aop_buildSlice, aop_load, aop_store, aop_nilCheck, aop_binOp, aop_unOp, aop_convert, aop_fieldAddr, aop_indexAddr, aop_slice, aop_extract, aop_makeSlice, aop_len, aop_max, aMax_int, slTy2, SC0, aop_append, aop_call, evalE, getE, putE, getB, setB, St.put, setsB, nth, AV.ofV, AV.blk, AV.bid, AV.one, SC.len, SC.get, List.length_nil, List.length_cons, Nat.reduceEqDiff, Nat.reduceAdd, ↓reduceIte, true_and, and_true, Bool.true_eq_false, Bool.false_eq_true, false_imp_iff, true_imp_iff, decide_eq_true_eq, Bool.not_eq_true', Bool.not_eq_false', decide_eq_false_iff_not, Option.isSome, List.nil_append, List.cons_append, aGuardO_some, aGuard_tt, aGuard_tf, aGuard_ft, aGuard_ff, aGuard_tb, aGuard_fb, aGuard_ts, aGuard_fs, aPick_b, aPick_t, aPick_f, aAlloc_one, aAlloc_flat, aBox_some, aBuild_flat, aInt_add, aBin_add, aInt_sub, aBin_sub, aInt_mul, aBin_mul, aInt_quo, aBin_quo, aInt_rem, aBin_rem, aInt_and, aBin_and, aInt_or, aBin_or, aInt_xor, aBin_xor, aInt_andNot, aBin_andNot, aInt_eql, aBin_eql, aInt_neq, aBin_neq, aInt_lss, aBin_lss, aInt_leq, aBin_leq, aInt_gtr, aBin_gtr, aInt_geq, aBin_geq, aBin_shl, aBin_shr, aShift_shl, aShift_shr, aBin_be1, aBin_bn1, aBin_be2, aBin_bn2, aBin_be3, aBin_bn3, aBin_be4, aBin_bn4, aBin_be5, aBin_bn5, aBin_be6, aBin_bn6, aBin_be7, aBin_bn7, aBin_be8, aBin_bn8, aBin_be9, aBin_bn9, aUn_b, aUn_t, aUn_f, aUn_i, aNil_ptr, aNil_pv, aConv_int, aField_ptr, aField_pv, aIdx_sl, aIdx_prm, aIdx_row, aIdx_drow, aMake_i, aMake_s, aExtr_tup, aLen_ref, aLen_nil, aLen_sl, aLen_prm, aLen_str, aBuildL_some, aBuildS_some, aLoad_1b, aLoad_1d, aLoad_fb, aLoad_fd, aLoad_1p, aLoad_fp, aLoad_ep, aLoad_rr, aLoad_rd, aStore_1, aStore_f, aStore_r, aApp_some, aAppend_nil, aAppend_ref, aSlice_h, aSlice_l, aSlice_lh, aop_slice3, aSlice3_r, aop_field, aFld_agg, aBinW_f, aBinW_t, aWrap_mul, aWrap_add, isW_tmp, isW_mulc, isW_addc, isW_sub, isW_quo, isW_rem, isW_and, isW_or, isW_xor, isW_andNot, isW_shl, isW_shr, isW_eql, isW_neq, isW_lss, isW_leq, isW_gtr, isW_geq, Int.reduceLT, aBinW_dF, aBinW_dT, bc_draw, kregD_at, aopsD_nil, aopsD_plain, aopsD_guard, kontD_at, contD_at, yesD_at, noD_at, splD_bool, splD_undef, splD_skip, splD_int, splD_tt, splD_ff, splD_str, splD_nil, splD_sl, splD_prm, splD_ref, splD_ptr, splD_rp, splD_ep, splD_pv, splD_agg, splD_tup, splD_clo, gD_tt, gD_tf, gD_ft, gD_ff, gD_ts, gD_fs, slotO_some, addTr_nil, addTr_cons, memQ_nil, memQ_cons, clash_nil, clash_cons, regC_none, regC_nil, regC_cons, regR_nil, regR_cons, Int.toNat_zero, Int.toNat_one, rng0, rng1, rng2, rng3, rng4, SC.take, SC.drop, mp_nil, acond_ct, acond_cf, mp_one0, mp_one1, mp_one2, mp_one3, kcall_one, liveB_row, liveB_box, idx, cont, still, dies, lend, lendA, lendDies, snocs, SC.snoc, SC.app, meet, AV.cells, fillA, List.getD_cons_zero, List.getD_cons_succ, List.set_cons_zero, List.set_cons_succ, List.length_singleton, Nat.le_refl, Nat.lt_irrefl, Nat.reduceLT, Nat.reduceLeDiff, Option.map_some, Option.map_none, List.flatMap_nil, List.flatMap_cons, Nat.zero_add, BEq.rfl, kcall_two, mp_two0, mp_two1, mp_two2, mp_two3, mp_two4, aop_makeFunc, plainA, Bool.true_and, sl3, ty3, un3, sl49, ty49, un49, sl71, ty71, un71, sl69, ty69, un69, sl5, ty5, un5, sl2, ty2, un2, sl21, ty21, un21, sl4, ty4, un4, sl9, un9, sl22, ty22, un22, sl31, ty31, un31, sl36, sl53, ty38, sl38, ty41, sl41, inR64, inRu64, inRu32, gs_spec_l8Orders_53, atR_spec_l8Orders, lend_spec_l8Orders, Try.f53]
  subst hp2
  simp only [kcode_at, kreg_at, bc_skip, bc_seq, bc_cond, bc_block, bc_exit, bc_ret, bc_region, lkX_cons, acond_tmp, aCase_t, aCase_f, aCase_b, afin_nil, cvE_some, resL, resV, resC, cv, cvL, pack, entryE, inPrm, Option.getD_some, acall_clo, add_sp, add_lend, kcall_nil, selOf, selC, selA, inArgs, inA, inL, okA, okL, okBx, okC, outA, outL, outU, outB, deep, deepL, boxIds, AV.bid, List.map_nil, List.map_cons, List.all_nil, List.all_cons, BEq.rfl, Bool.and_true, Bool.true_and, List.append_nil, aops_nil, aops_plain, aops_guard, kont_at, yes_at, no_at, aop_move, aop_assign, aop_pick, aop_alloc, aop_box, aop_build, aop_buildSlice, aop_load, aop_store, aop_nilCheck, aop_binOp, aop_unOp, aop_convert, aop_fieldAddr, aop_indexAddr, aop_slice, aop_extract, aop_makeSlice, aop_len, aop_max, aMax_int, slTy2, SC0, aop_append, aop_call, evalE, getE, putE, getB, setB, St.put, setsB, nth, AV.ofV, AV.blk, AV.bid, AV.one, SC.len, SC.get, List.length_nil, List.length_cons, Nat.reduceEqDiff, Nat.reduceAdd, ↓reduceIte, true_and, and_true, Bool.true_eq_false, Bool.false_eq_true, false_imp_iff, true_imp_iff, decide_eq_true_eq, Bool.not_eq_true', Bool.not_eq_false', decide_eq_false_iff_not, Option.isSome, List.nil_append, List.cons_append, aGuardO_some, aGuard_tt, aGuard_tf, aGuard_ft, aGuard_ff, aGuard_tb, aGuard_fb, aGuard_ts, aGuard_fs, aPick_b, aPick_t, aPick_f, aAlloc_one, aAlloc_flat, aBox_some, aBuild_flat, aInt_add, aBin_add, aInt_sub, aBin_sub, aInt_mul, aBin_mul, aInt_quo, aBin_quo, aInt_rem, aBin_rem, aInt_and, aBin_and, aInt_or, aBin_or, aInt_xor, aBin_xor, aInt_andNot, aBin_andNot, aInt_eql, aBin_eql, aInt_neq, aBin_neq, aInt_lss, aBin_lss, aInt_leq, aBin_leq, aInt_gtr, aBin_gtr, aInt_geq, aBin_geq, aBin_shl, aBin_shr, aShift_shl, aShift_shr, aBin_be1, aBin_bn1, aBin_be2, aBin_bn2, aBin_be3, aBin_bn3, aBin_be4, aBin_bn4, aBin_be5, aBin_bn5, aBin_be6, aBin_bn6, aBin_be7, aBin_bn7, aBin_be8, aBin_bn8, aBin_be9, aBin_bn9, aUn_b, aUn_t, aUn_f, aUn_i, aNil_ptr, aNil_pv, aConv_int, aField_ptr, aField_pv, aIdx_sl, aIdx_prm, aIdx_row, aIdx_drow, aMake_i, aMake_s, aExtr_tup, aLen_ref, aLen_nil, aLen_sl, aLen_prm, aLen_str, aBuildL_some, aBuildS_some, aLoad_1b, aLoad_1d, aLoad_fb, aLoad_fd, aLoad_1p, aLoad_fp, aLoad_ep, aLoad_rr, aLoad_rd, aStore_1, aStore_f, aStore_r, aApp_some, aAppend_nil, aAppend_ref, aSlice_h, aSlice_l, aSlice_lh, aop_slice3, aSlice3_r, aop_field, aFld_agg, aBinW_f, aBinW_t, aWrap_mul, aWrap_add, isW_tmp, isW_mulc, isW_addc, isW_sub, isW_quo, isW_rem, isW_and, isW_or, isW_xor, isW_andNot, isW_shl, isW_shr, isW_eql, isW_neq, isW_lss, isW_leq, isW_gtr, isW_geq, Int.reduceLT, aBinW_dF, aBinW_dT, bc_draw, kregD_at, aopsD_nil, aopsD_plain, aopsD_guard, kontD_at, contD_at, yesD_at, noD_at, splD_bool, splD_undef, splD_skip, splD_int, splD_tt, splD_ff, splD_str, splD_nil, splD_sl, splD_prm, splD_ref, splD_ptr, splD_rp, splD_ep, splD_pv, splD_agg, splD_tup, splD_clo, gD_tt, gD_tf, gD_ft, gD_ff, gD_ts, gD_fs, slotO_some, addTr_nil, addTr_cons, memQ_nil, memQ_cons, clash_nil, clash_cons, regC_none, regC_nil, regC_cons, regR_nil, regR_cons, Int.toNat_zero, Int.toNat_one, rng0, rng1, rng2, rng3, rng4, SC.take, SC.drop, mp_nil, acond_ct, acond_cf, mp_one0, mp_one1, mp_one2, mp_one3, kcall_one, liveB_row, liveB_box, idx, cont, still, dies, lend, lendA, lendDies, snocs, SC.snoc, SC.app, meet, AV.cells, fillA, List.getD_cons_zero, List.getD_cons_succ, List.set_cons_zero, List.set_cons_succ, List.length_singleton, Nat.le_refl, Nat.lt_irrefl, Nat.reduceLT, Nat.reduceLeDiff, Option.map_some, Option.map_none, List.flatMap_nil, List.flatMap_cons, Nat.zero_add, BEq.rfl, kcall_two, mp_two0, mp_two1, mp_two2, mp_two3, mp_two4, aop_makeFunc, plainA, Bool.true_and, sl3, ty3, un3, sl49, ty49, un49, sl71, ty71, un71, sl69, ty69, un69, sl5, ty5, un5, sl2, ty2, un2, sl21, ty21, un21, sl4, ty4, un4, sl9, un9, sl22, ty22, un22, sl31, ty31, un31, sl36, sl53, ty38, sl38, ty41, sl41, inR64, inRu64, inRu32, gs_spec_l8Orders_53, atR_spec_l8Orders, lend_spec_l8Orders]
  refine ⟨fun h => ?_, fun h => absurd h (by omega)⟩
  rw [hc, Nat.sub_self]
  simp only [ordL]
  exact afin_of [0, 1] rfl (by simp only [resL, resV, resC, getE, putE, getB, setB, lifts, liftOne, cellsOfB, List.length_cons, List.length_nil, List.nil_append, List.cons_append, Nat.reduceAdd, Nat.reduceEqDiff, ↓reduceIte, ty3, ty49, ty71, ty69, ty5, ty2, ty21, ty4, ty22, ty31, ty38, ty41]; rfl) (by simp [St.conv, St.bf, getE, putE, getB, cv, cvL, cvB, idx, still, pack, lifts, liftOne, cellsOfB, setB]) (by simp [St.conv, St.bf, getE, putE, getB, cv, cvL, cvB, idx, still, pack, lifts, liftOne, cellsOfB, setB])
set_option maxHeartbeats 1000000 in
set_option maxRecDepth 100000 in
theorem runs_spec_l8Orders_2_st {N : Nat} (hok : (G_spec_l8Orders N).ok Try.prog) (n : Int) (p : List Int) (m : Nat) (hp1 : 0 ≤ n ∧ n ≤ 6) (hp2 : m = p.length) (hp3 : p.length ≤ n.toNat) (hc : ¬ p.length = n.toNat) (hm : n.toNat - p.length = N) : ARuns Try.prog 53 [.int .i64 n, .ref 0 m] [.row 3 (.ints .i64 p)] (.ref 1 (ordL n.toNat (n.toNat - p.length) p).length) [.gone, .row 22 (.rows (some 3) (ordL n.toNat (n.toNat - p.length) p))] := by
  subst hm
  refine ARuns_gone1 (.row 3 (.ints .i64 p)) <| ARuns_bc hok is_spec_l8Orders (by simp) fun hl hlB => ?_
  simp only [kcode_at, kreg_at, bc_skip, bc_seq, bc_cond, bc_block, bc_exit, bc_ret, bc_region, lkX_cons, acond_tmp, aCase_t, aCase_f, aCase_b, afin_nil, cvE_some, resL, resV, resC, cv, cvL, pack, entryE, inPrm, Option.getD_some, acall_clo, add_sp, add_lend, kcall_nil, selOf, selC, selA, inArgs, inA, inL, okA, okL, okBx, okC, outA, outL, outU, outB, deep, deepL, boxIds, AV.bid, List.map_nil, List.map_cons, List.all_nil, List.all_cons, BEq.rfl, Bool.and_true, Bool.true_and, List.append_nil, aops_nil, aops_plain, aops_guard, kont_at, yes_at, no_at, aop_move, aop_assign, aop_pick, aop_alloc, aop_box, aop_build, aop_buildSlice, aop_load, aop_store, aop_nilCheck, aop_binOp, aop_unOp, aop_convert, aop_fieldAddr, aop_indexAddr, aop_slice, aop_extract, aop_makeSlice, aop_len, aop_max, aMax_int, slTy2, SC0, aop_append, aop_call, evalE, getE, putE, getB, setB, St.put, setsB, nth, AV.ofV, AV.blk, AV.bid, AV.one, SC.len, SC.get, List.length_nil, List.length_cons, Nat.reduceEqDiff, Nat.reduceAdd, ↓reduceIte, true_and, and_true, Bool.true_eq_false, Bool.false_eq_true, false_imp_iff, true_imp_iff, decide_eq_true_eq, Bool.not_eq_true', Bool.not_eq_false', decide_eq_false_iff_not, Option.isSome, List.nil_append, List.cons_append, aGuardO_some, aGuard_tt, aGuard_tf, aGuard_ft, aGuard_ff, aGuard_tb, aGuard_fb, aGuard_ts, aGuard_fs, aPick_b, aPick_t, aPick_f, aAlloc_one, aAlloc_flat, aBox_some, aBuild_flat, aInt_add, aBin_add, aInt_sub, aBin_sub, aInt_mul, aBin_mul, aInt_quo, aBin_quo, aInt_rem, aBin_rem, aInt_and, aBin_and, aInt_or, aBin_or, aInt_xor, aBin_xor, aInt_andNot, aBin_andNot, aInt_eql, aBin_eql, aInt_neq, aBin_neq, aInt_lss, aBin_lss, aInt_leq, aBin_leq, aInt_gtr, aBin_gtr, aInt_geq, aBin_geq, aBin_shl, aBin_shr, aShift_shl, aShift_shr, aBin_be1, aBin_bn1, aBin_be2, aBin_bn2, aBin_be3, aBin_bn3, aBin_be4, aBin_bn4, aBin_be5, aBin_bn5, aBin_be6, aBin_bn6, aBin_be7, aBin_bn7, aBin_be8, aBin_bn8, aBin_be9, aBin_bn9, aUn_b, aUn_t, aUn_f, aUn_i, aNil_ptr, aNil_pv, aConv_int, aField_ptr, aField_pv, aIdx_sl, aIdx_prm, aIdx_row, aIdx_drow, aMake_i, aMake_s, aExtr_tup, aLen_ref, aLen_nil, aLen_sl, aLen_prm, aLen_str, aBuildL_some, aBuildS_some, aLoad_1b, aLoad_1d, aLoad_fb, aLoad_fd, aLoad_1p, aLoad_fp, aLoad_ep, aLoad_rr, aLoad_rd, aStore_1, aStore_f, aStore_r, aApp_some, aAppend_nil, aAppend_ref, aSlice_h, aSlice_l, aSlice_lh, aop_slice3, aSlice3_r, aop_field, aFld_agg, aBinW_f, aBinW_t, aWrap_mul, aWrap_add, isW_tmp, isW_mulc, isW_addc, isW_sub, isW_quo, isW_rem, isW_and, isW_or, isW_xor, isW_andNot, isW_shl, isW_shr, isW_eql, isW_neq, isW_lss, isW_leq, isW_gtr, isW_geq, Int.reduceLT, aBinW_dF, aBinW_dT, bc_draw, kregD_at, aopsD_nil, aopsD_plain, aopsD_guard, kontD_at, contD_at, yesD_at, noD_at, splD_bool, splD_undef, splD_skip, splD_int, splD_tt, splD_ff, splD_str, splD_nil, splD_sl, splD_prm, splD_ref, splD_ptr, splD_rp, splD_ep, splD_pv, splD_agg, splD_tup, splD_clo, gD_tt, gD_tf, gD_ft, gD_ff, gD_ts, gD_fs, slotO_some, addTr_nil, addTr_cons, memQ_nil, memQ_cons, clash_nil, clash_cons, regC_none, regC_nil, regC_cons, regR_nil, regR_cons, Int.toNat_zero, Int.toNat_one, rng0, rng1, rng2, rng3, rng4, SC.take, SC.drop, mp_nil, acond_ct, acond_cf, mp_one0, mp_one1, mp_one2, mp_one3, kcall_one, liveB_row, liveB_box, idx, cont, still, dies, lend, lendA, lendDies, snocs, SC.snoc, SC.app, meet, AV.cells, fillA, List.getD_cons_zero, List.getD_cons_succ, List.set_cons_zero, List.set_cons_succ, List.length_singleton, Nat.le_refl, Nat.lt_irrefl, Nat.reduceLT, Nat.reduceLeDiff, Option.map_some, Option.map_none, List.flatMap_nil, List.flatMap_cons, Nat.zero_add, BEq.rfl, kcall_two, mp_two0, mp_two1, mp_two2, mp_two3, mp_two4, aop_makeFunc, plainA, Bool.true_and, sl3, ty3, un3, sl49, ty49, un49, sl71, ty71, un71, sl69, ty69, un69, sl5, ty5, un5, sl2, ty2, un2, sl21, ty21, un21, sl4, ty4, un4, sl9, un9, sl22, ty22, un22, sl31, ty31, un31, sl36, sl53, ty38, sl38, ty41, sl41, inR64, inRu64, inRu32, gs_spec_l8Orders_53, atR_spec_l8Orders, lend_spec_l8Orders, Try.f53]
  subst hp2
  obtain ⟨N, rfl⟩ := Int.eq_ofNat_of_zero_le hp1.1
  simp only [Int.toNat_natCast] at *
  simp only [kcode_at, kreg_at, bc_skip, bc_seq, bc_cond, bc_block, bc_exit, bc_ret, bc_region, lkX_cons, acond_tmp, aCase_t, aCase_f, aCase_b, afin_nil, cvE_some, resL, resV, resC, cv, cvL, pack, entryE, inPrm, Option.getD_some, acall_clo, add_sp, add_lend, kcall_nil, selOf, selC, selA, inArgs, inA, inL, okA, okL, okBx, okC, outA, outL, outU, outB, deep, deepL, boxIds, AV.bid, List.map_nil, List.map_cons, List.all_nil, List.all_cons, BEq.rfl, Bool.and_true, Bool.true_and, List.append_nil, aops_nil, aops_plain, aops_guard, kont_at, yes_at, no_at, aop_move, aop_assign, aop_pick, aop_alloc, aop_box, aop_build, aop_buildSlice, aop_load, aop_store, aop_nilCheck, aop_binOp, aop_unOp, aop_convert, aop_fieldAddr, aop_indexAddr, aop_slice, aop_extract, aop_makeSlice, aop_len, aop_max, aMax_int, slTy2, SC0, aop_append, aop_call, evalE, getE, putE, getB, setB, St.put, setsB, nth, AV.ofV, AV.blk, AV.bid, AV.one, SC.len, SC.get, List.length_nil, List.length_cons, Nat.reduceEqDiff, Nat.reduceAdd, ↓reduceIte, true_and, and_true, Bool.true_eq_false, Bool.false_eq_true, false_imp_iff, true_imp_iff, decide_eq_true_eq, Bool.not_eq_true', Bool.not_eq_false', decide_eq_false_iff_not, Option.isSome, List.nil_append, List.cons_append, aGuardO_some, aGuard_tt, aGuard_tf, aGuard_ft, aGuard_ff, aGuard_tb, aGuard_fb, aGuard_ts, aGuard_fs, aPick_b, aPick_t, aPick_f, aAlloc_one, aAlloc_flat, aBox_some, aBuild_flat, aInt_add, aBin_add, aInt_sub, aBin_sub, aInt_mul, aBin_mul, aInt_quo, aBin_quo, aInt_rem, aBin_rem, aInt_and, aBin_and, aInt_or, aBin_or, aInt_xor, aBin_xor, aInt_andNot, aBin_andNot, aInt_eql, aBin_eql, aInt_neq, aBin_neq, aInt_lss, aBin_lss, aInt_leq, aBin_leq, aInt_gtr, aBin_gtr, aInt_geq, aBin_geq, aBin_shl, aBin_shr, aShift_shl, aShift_shr, aBin_be1, aBin_bn1, aBin_be2, aBin_bn2, aBin_be3, aBin_bn3, aBin_be4, aBin_bn4, aBin_be5, aBin_bn5, aBin_be6, aBin_bn6, aBin_be7, aBin_bn7, aBin_be8, aBin_bn8, aBin_be9, aBin_bn9, aUn_b, aUn_t, aUn_f, aUn_i, aNil_ptr, aNil_pv, aConv_int, aField_ptr, aField_pv, aIdx_sl, aIdx_prm, aIdx_row, aIdx_drow, aMake_i, aMake_s, aExtr_tup, aLen_ref, aLen_nil, aLen_sl, aLen_prm, aLen_str, aBuildL_some, aBuildS_some, aLoad_1b, aLoad_1d, aLoad_fb, aLoad_fd, aLoad_1p, aLoad_fp, aLoad_ep, aLoad_rr, aLoad_rd, aStore_1, aStore_f, aStore_r, aApp_some, aAppend_nil, aAppend_ref, aSlice_h, aSlice_l, aSlice_lh, aop_slice3, aSlice3_r, aop_field, aFld_agg, aBinW_f, aBinW_t, aWrap_mul, aWrap_add, isW_tmp, isW_mulc, isW_addc, isW_sub, isW_quo, isW_rem, isW_and, isW_or, isW_xor, isW_andNot, isW_shl, isW_shr, isW_eql, isW_neq, isW_lss, isW_leq, isW_gtr, isW_geq, Int.reduceLT, aBinW_dF, aBinW_dT, bc_draw, kregD_at, aopsD_nil, aopsD_plain, aopsD_guard, kontD_at, contD_at, yesD_at, noD_at, splD_bool, splD_undef, splD_skip, splD_int, splD_tt, splD_ff, splD_str, splD_nil, splD_sl, splD_prm, splD_ref, splD_ptr, splD_rp, splD_ep, splD_pv, splD_agg, splD_tup, splD_clo, gD_tt, gD_tf, gD_ft, gD_ff, gD_ts, gD_fs, slotO_some, addTr_nil, addTr_cons, memQ_nil, memQ_cons, clash_nil, clash_cons, regC_none, regC_nil, regC_cons, regR_nil, regR_cons, Int.toNat_zero, Int.toNat_one, rng0, rng1, rng2, rng3, rng4, SC.take, SC.drop, mp_nil, acond_ct, acond_cf, mp_one0, mp_one1, mp_one2, mp_one3, kcall_one, liveB_row, liveB_box, idx, cont, still, dies, lend, lendA, lendDies, snocs, SC.snoc, SC.app, meet, AV.cells, fillA, List.getD_cons_zero, List.getD_cons_succ, List.set_cons_zero, List.set_cons_succ, List.length_singleton, Nat.le_refl, Nat.lt_irrefl, Nat.reduceLT, Nat.reduceLeDiff, Option.map_some, Option.map_none, List.flatMap_nil, List.flatMap_cons, Nat.zero_add, BEq.rfl, kcall_two, mp_two0, mp_two1, mp_two2, mp_two3, mp_two4, aop_makeFunc, plainA, Bool.true_and, sl3, ty3, un3, sl49, ty49, un49, sl71, ty71, un71, sl69, ty69, un69, sl5, ty5, un5, sl2, ty2, un2, sl21, ty21, un21, sl4, ty4, un4, sl9, un9, sl22, ty22, un22, sl31, ty31, un31, sl36, sl53, ty38, sl38, ty41, sl41, inR64, inRu64, inRu32, gs_spec_l8Orders_53, atR_spec_l8Orders, lend_spec_l8Orders]
  refine ⟨fun h => absurd h (by omega), fun h => ?_⟩
  have hN : N ≤ 6 := by omega
  obtain ⟨f, hf⟩ : ∃ f, N - p.length = f + 1 := ⟨N - p.length - 1, by omega⟩
  rw [hf]
  have hsum : ∀ x, ((extF p x).flatMap (ordL N f)).length ≤ x * 7776 := fun x => by
    have h1 := flat_len (g := ordL N f) (m := 6 ^ f) (fun q => ordL_len hN) (ls := extF p x)
    have h2 : (6 : Nat) ^ f ≤ 6 ^ 5 := Nat.pow_le_pow_right (by omega) (by omega)
    have h3 := extF_len (p := p) (n := x)
    have h4 := Nat.mul_le_mul h3 h2
    omega
  refine bc_loop (fun x : Nat => x ≤ N)
    (fun x => ⟨[(0, .int .i64 N), (1, .ref 0 p.length), (5, .ref 1 ((extF p x).flatMap (ordL N f)).length), (6, .int .i64 x)], [.row 3 (.ints .i64 p), .row 22 (.rows (some 3) ((extF p x).flatMap (ordL N f)))]⟩) (fun x => N - x)
    [0, 1, 5, 6] [0, 1] 0 rfl (by simp [St.conv, St.bf, getE, putE, getB, cv, cvL, cvB, idx, still, pack, lifts, liftOne, cellsOfB, setB]; simp [extF]) (by omega) fun x hx => ?_
  simp only [kcode_at, kreg_at, bc_skip, bc_seq, bc_cond, bc_block, bc_exit, bc_ret, bc_region, lkX_cons, acond_tmp, aCase_t, aCase_f, aCase_b, afin_nil, cvE_some, resL, resV, resC, cv, cvL, pack, entryE, inPrm, Option.getD_some, acall_clo, add_sp, add_lend, kcall_nil, selOf, selC, selA, inArgs, inA, inL, okA, okL, okBx, okC, outA, outL, outU, outB, deep, deepL, boxIds, AV.bid, List.map_nil, List.map_cons, List.all_nil, List.all_cons, BEq.rfl, Bool.and_true, Bool.true_and, List.append_nil, aops_nil, aops_plain, aops_guard, kont_at, yes_at, no_at, aop_move, aop_assign, aop_pick, aop_alloc, aop_box, aop_build, aop_buildSlice, aop_load, aop_store, aop_nilCheck, aop_binOp, aop_unOp, aop_convert, aop_fieldAddr, aop_indexAddr, aop_slice, aop_extract, aop_makeSlice, aop_len, aop_max, aMax_int, slTy2, SC0, aop_append, aop_call, evalE, getE, putE, getB, setB, St.put, setsB, nth, AV.ofV, AV.blk, AV.bid, AV.one, SC.len, SC.get, List.length_nil, List.length_cons, Nat.reduceEqDiff, Nat.reduceAdd, ↓reduceIte, true_and, and_true, Bool.true_eq_false, Bool.false_eq_true, false_imp_iff, true_imp_iff, decide_eq_true_eq, Bool.not_eq_true', Bool.not_eq_false', decide_eq_false_iff_not, Option.isSome, List.nil_append, List.cons_append, aGuardO_some, aGuard_tt, aGuard_tf, aGuard_ft, aGuard_ff, aGuard_tb, aGuard_fb, aGuard_ts, aGuard_fs, aPick_b, aPick_t, aPick_f, aAlloc_one, aAlloc_flat, aBox_some, aBuild_flat, aInt_add, aBin_add, aInt_sub, aBin_sub, aInt_mul, aBin_mul, aInt_quo, aBin_quo, aInt_rem, aBin_rem, aInt_and, aBin_and, aInt_or, aBin_or, aInt_xor, aBin_xor, aInt_andNot, aBin_andNot, aInt_eql, aBin_eql, aInt_neq, aBin_neq, aInt_lss, aBin_lss, aInt_leq, aBin_leq, aInt_gtr, aBin_gtr, aInt_geq, aBin_geq, aBin_shl, aBin_shr, aShift_shl, aShift_shr, aBin_be1, aBin_bn1, aBin_be2, aBin_bn2, aBin_be3, aBin_bn3, aBin_be4, aBin_bn4, aBin_be5, aBin_bn5, aBin_be6, aBin_bn6, aBin_be7, aBin_bn7, aBin_be8, aBin_bn8, aBin_be9, aBin_bn9, aUn_b, aUn_t, aUn_f, aUn_i, aNil_ptr, aNil_pv, aConv_int, aField_ptr, aField_pv, aIdx_sl, aIdx_prm, aIdx_row, aIdx_drow, aMake_i, aMake_s, aExtr_tup, aLen_ref, aLen_nil, aLen_sl, aLen_prm, aLen_str, aBuildL_some, aBuildS_some, aLoad_1b, aLoad_1d, aLoad_fb, aLoad_fd, aLoad_1p, aLoad_fp, aLoad_ep, aLoad_rr, aLoad_rd, aStore_1, aStore_f, aStore_r, aApp_some, aAppend_nil, aAppend_ref, aSlice_h, aSlice_l, aSlice_lh, aop_slice3, aSlice3_r, aop_field, aFld_agg, aBinW_f, aBinW_t, aWrap_mul, aWrap_add, isW_tmp, isW_mulc, isW_addc, isW_sub, isW_quo, isW_rem, isW_and, isW_or, isW_xor, isW_andNot, isW_shl, isW_shr, isW_eql, isW_neq, isW_lss, isW_leq, isW_gtr, isW_geq, Int.reduceLT, aBinW_dF, aBinW_dT, bc_draw, kregD_at, aopsD_nil, aopsD_plain, aopsD_guard, kontD_at, contD_at, yesD_at, noD_at, splD_bool, splD_undef, splD_skip, splD_int, splD_tt, splD_ff, splD_str, splD_nil, splD_sl, splD_prm, splD_ref, splD_ptr, splD_rp, splD_ep, splD_pv, splD_agg, splD_tup, splD_clo, gD_tt, gD_tf, gD_ft, gD_ff, gD_ts, gD_fs, slotO_some, addTr_nil, addTr_cons, memQ_nil, memQ_cons, clash_nil, clash_cons, regC_none, regC_nil, regC_cons, regR_nil, regR_cons, Int.toNat_zero, Int.toNat_one, rng0, rng1, rng2, rng3, rng4, SC.take, SC.drop, mp_nil, acond_ct, acond_cf, mp_one0, mp_one1, mp_one2, mp_one3, kcall_one, liveB_row, liveB_box, idx, cont, still, dies, lend, lendA, lendDies, snocs, SC.snoc, SC.app, meet, AV.cells, fillA, List.getD_cons_zero, List.getD_cons_succ, List.set_cons_zero, List.set_cons_succ, List.length_singleton, Nat.le_refl, Nat.lt_irrefl, Nat.reduceLT, Nat.reduceLeDiff, Option.map_some, Option.map_none, List.flatMap_nil, List.flatMap_cons, Nat.zero_add, BEq.rfl, kcall_two, mp_two0, mp_two1, mp_two2, mp_two3, mp_two4, aop_makeFunc, plainA, Bool.true_and, sl3, ty3, un3, sl49, ty49, un49, sl71, ty71, un71, sl69, ty69, un69, sl5, ty5, un5, sl2, ty2, un2, sl21, ty21, un21, sl4, ty4, un4, sl9, un9, sl22, ty22, un22, sl31, ty31, un31, sl36, sl53, ty38, sl38, ty41, sl41, inR64, inRu64, inRu32, gs_spec_l8Orders_53, atR_spec_l8Orders, lend_spec_l8Orders, Int.toNat_natCast]
  refine ⟨fun hlt => ?_, fun hge => ?_⟩
  · refine bc_loop (fun i : Nat => i ≤ p.length)
      (fun i => ⟨[(0, .int .i64 N), (1, .ref 0 p.length), (5, .ref 1 ((extF p x).flatMap (ordL N f)).length), (6, .int .i64 x), (7, .bool (decide ((x : Int) ∈ p.take i))), (8, .int .i64 i)], [.row 3 (.ints .i64 p), .row 22 (.rows (some 3) ((extF p x).flatMap (ordL N f)))]⟩) (fun i => p.length - i)
      [0, 1, 5, 6, 7, 8] [0, 1] 0 rfl (by simp [St.conv, St.bf, getE, putE, getB, cv, cvL, cvB, idx, still, pack, lifts, liftOne, cellsOfB, setB]) (by omega) fun i hi => ?_
    simp only [kcode_at, kreg_at, bc_skip, bc_seq, bc_cond, bc_block, bc_exit, bc_ret, bc_region, lkX_cons, acond_tmp, aCase_t, aCase_f, aCase_b, afin_nil, cvE_some, resL, resV, resC, cv, cvL, pack, entryE, inPrm, Option.getD_some, acall_clo, add_sp, add_lend, kcall_nil, selOf, selC, selA, inArgs, inA, inL, okA, okL, okBx, okC, outA, outL, outU, outB, deep, deepL, boxIds, AV.bid, List.map_nil, List.map_cons, List.all_nil, List.all_cons, BEq.rfl, Bool.and_true, Bool.true_and, List.append_nil, aops_nil, aops_plain, aops_guard, kont_at, yes_at, no_at, aop_move, aop_assign, aop_pick, aop_alloc, aop_box, aop_build, aop_buildSlice, aop_load, aop_store, aop_nilCheck, aop_binOp, aop_unOp, aop_convert, aop_fieldAddr, aop_indexAddr, aop_slice, aop_extract, aop_makeSlice, aop_len, aop_max, aMax_int, slTy2, SC0, aop_append, aop_call, evalE, getE, putE, getB, setB, St.put, setsB, nth, AV.ofV, AV.blk, AV.bid, AV.one, SC.len, SC.get, List.length_nil, List.length_cons, Nat.reduceEqDiff, Nat.reduceAdd, ↓reduceIte, true_and, and_true, Bool.true_eq_false, Bool.false_eq_true, false_imp_iff, true_imp_iff, decide_eq_true_eq, Bool.not_eq_true', Bool.not_eq_false', decide_eq_false_iff_not, Option.isSome, List.nil_append, List.cons_append, aGuardO_some, aGuard_tt, aGuard_tf, aGuard_ft, aGuard_ff, aGuard_tb, aGuard_fb, aGuard_ts, aGuard_fs, aPick_b, aPick_t, aPick_f, aAlloc_one, aAlloc_flat, aBox_some, aBuild_flat, aInt_add, aBin_add, aInt_sub, aBin_sub, aInt_mul, aBin_mul, aInt_quo, aBin_quo, aInt_rem, aBin_rem, aInt_and, aBin_and, aInt_or, aBin_or, aInt_xor, aBin_xor, aInt_andNot, aBin_andNot, aInt_eql, aBin_eql, aInt_neq, aBin_neq, aInt_lss, aBin_lss, aInt_leq, aBin_leq, aInt_gtr, aBin_gtr, aInt_geq, aBin_geq, aBin_shl, aBin_shr, aShift_shl, aShift_shr, aBin_be1, aBin_bn1, aBin_be2, aBin_bn2, aBin_be3, aBin_bn3, aBin_be4, aBin_bn4, aBin_be5, aBin_bn5, aBin_be6, aBin_bn6, aBin_be7, aBin_bn7, aBin_be8, aBin_bn8, aBin_be9, aBin_bn9, aUn_b, aUn_t, aUn_f, aUn_i, aNil_ptr, aNil_pv, aConv_int, aField_ptr, aField_pv, aIdx_sl, aIdx_prm, aIdx_row, aIdx_drow, aMake_i, aMake_s, aExtr_tup, aLen_ref, aLen_nil, aLen_sl, aLen_prm, aLen_str, aBuildL_some, aBuildS_some, aLoad_1b, aLoad_1d, aLoad_fb, aLoad_fd, aLoad_1p, aLoad_fp, aLoad_ep, aLoad_rr, aLoad_rd, aStore_1, aStore_f, aStore_r, aApp_some, aAppend_nil, aAppend_ref, aSlice_h, aSlice_l, aSlice_lh, aop_slice3, aSlice3_r, aop_field, aFld_agg, aBinW_f, aBinW_t, aWrap_mul, aWrap_add, isW_tmp, isW_mulc, isW_addc, isW_sub, isW_quo, isW_rem, isW_and, isW_or, isW_xor, isW_andNot, isW_shl, isW_shr, isW_eql, isW_neq, isW_lss, isW_leq, isW_gtr, isW_geq, Int.reduceLT, aBinW_dF, aBinW_dT, bc_draw, kregD_at, aopsD_nil, aopsD_plain, aopsD_guard, kontD_at, contD_at, yesD_at, noD_at, splD_bool, splD_undef, splD_skip, splD_int, splD_tt, splD_ff, splD_str, splD_nil, splD_sl, splD_prm, splD_ref, splD_ptr, splD_rp, splD_ep, splD_pv, splD_agg, splD_tup, splD_clo, gD_tt, gD_tf, gD_ft, gD_ff, gD_ts, gD_fs, slotO_some, addTr_nil, addTr_cons, memQ_nil, memQ_cons, clash_nil, clash_cons, regC_none, regC_nil, regC_cons, regR_nil, regR_cons, Int.toNat_zero, Int.toNat_one, rng0, rng1, rng2, rng3, rng4, SC.take, SC.drop, mp_nil, acond_ct, acond_cf, mp_one0, mp_one1, mp_one2, mp_one3, kcall_one, liveB_row, liveB_box, idx, cont, still, dies, lend, lendA, lendDies, snocs, SC.snoc, SC.app, meet, AV.cells, fillA, List.getD_cons_zero, List.getD_cons_succ, List.set_cons_zero, List.set_cons_succ, List.length_singleton, Nat.le_refl, Nat.lt_irrefl, Nat.reduceLT, Nat.reduceLeDiff, Option.map_some, Option.map_none, List.flatMap_nil, List.flatMap_cons, Nat.zero_add, BEq.rfl, kcall_two, mp_two0, mp_two1, mp_two2, mp_two3, mp_two4, aop_makeFunc, plainA, Bool.true_and, sl3, ty3, un3, sl49, ty49, un49, sl71, ty71, un71, sl69, ty69, un69, sl5, ty5, un5, sl2, ty2, un2, sl21, ty21, un21, sl4, ty4, un4, sl9, un9, sl22, ty22, un22, sl31, ty31, un31, sl36, sl53, ty38, sl38, ty41, sl41, inR64, inRu64, inRu32, gs_spec_l8Orders_53, atR_spec_l8Orders, lend_spec_l8Orders, Int.toNat_natCast, List.length_append, List.length_singleton]
    have hs := hsum x
    refine ⟨fun hlt2 => ?_, fun hge2 => ?_⟩
    · have hm : (x : Int) ∈ p.take (i + 1) ↔ (x : Int) ∈ p.take i ∨ p.getD i 0 = x := by
        rw [take_succ_getD (by omega), List.mem_append, List.mem_singleton]
        constructor
        · rintro (h | h)
          · exact .inl h
          · exact .inr h.symm
        · rintro (h | h)
          · exact .inl h
          · exact .inr h.symm
      refine ⟨fun hu => ⟨by omega, klp_of (i + 1) ?_ (by omega) (by omega)⟩, fun hu => ⟨by omega, by omega, by omega, klp_of (i + 1) ?_ (by omega) (by omega)⟩⟩
      · have e : decide ((x : Int) ∈ p.take (i + 1)) = true := decide_eq_true (hm.2 (.inl hu))
        rw [e]; simp [St.conv, St.bf, getE, putE, getB, cv, cvL, cvB, idx, still, pack, lifts, liftOne, cellsOfB, setB]
      · have e : decide ((x : Int) ∈ p.take (i + 1)) = decide (p.getD i 0 = x) := by
          rw [Bool.eq_iff_iff, decide_eq_true_eq, decide_eq_true_eq, hm]
          exact ⟨fun h => h.resolve_left hu, .inr⟩
        rw [e]; simp [St.conv, St.bf, getE, putE, getB, cv, cvL, cvB, idx, still, pack, lifts, liftOne, cellsOfB, setB]
    · rw [List.take_of_length_le (by omega)]
      refine ⟨fun hu => ?_, fun hu => ⟨by omega, klp_of (x + 1) ?_ (by omega) (by omega)⟩⟩
      · have hl6 := ordL_len6 (n := N) hN (f := N - (p.length + 1)) (by omega) (p := p ++ [(x : Int)])
        have ef : N - (p.length + 1) = f := by omega
        rw [ef] at hl6 ⊢
        have ex : (extF p (x + 1)).flatMap (ordL N f) = (extF p x).flatMap (ordL N f) ++ ordL N f (p ++ [(x : Int)]) := by
          rw [extF_f hu, List.flatMap_append]; simp
        refine ⟨by omega, by omega, by omega, by omega, by omega, fun _ => ?_, fun _ => ?_⟩
        · refine ⟨by omega, by omega, klp_of (x + 1) ?_ (by omega) (by omega)⟩
          rw [ex]; simp [St.conv, St.bf, getE, putE, getB, cv, cvL, cvB, idx, still, pack, lifts, liftOne, cellsOfB, setB]
        · refine ⟨by omega, by omega, klp_of (x + 1) ?_ (by omega) (by omega)⟩
          rw [ex]; simp [St.conv, St.bf, getE, putE, getB, cv, cvL, cvB, idx, still, pack, lifts, liftOne, cellsOfB, setB]
      · rw [extF_t hu]; simp [St.conv, St.bf, getE, putE, getB, cv, cvL, cvB, idx, still, pack, lifts, liftOne, cellsOfB, setB]
  · have : x = N := by omega
    subst this
    rw [show ordL x (f + 1) p = (extF p x).flatMap (ordL x f) from rfl]
    exact afin_of [0, 1] rfl (by simp only [resL, resV, resC, getE, putE, getB, setB, lifts, liftOne, cellsOfB, List.length_cons, List.length_nil, List.nil_append, List.cons_append, Nat.reduceAdd, Nat.reduceEqDiff, ↓reduceIte, ty3, ty49, ty71, ty69, ty5, ty2, ty21, ty4, ty22, ty31, ty38, ty41]; rfl) (by simp [St.conv, St.bf, getE, putE, getB, cv, cvL, cvB, idx, still, pack, lifts, liftOne, cellsOfB, setB]) (by simp [St.conv, St.bf, getE, putE, getB, cv, cvL, cvB, idx, still, pack, lifts, liftOne, cellsOfB, setB])
theorem runs_spec_l8Orders_aux : ∀ (N : Nat) (n : Int) (p : List Int) (m : Nat) (hp1 : 0 ≤ n ∧ n ≤ 6) (hp2 : m = p.length) (hp3 : p.length ≤ n.toNat) (hm : n.toNat - p.length = N), ((p.length = n.toNat) → ARuns Try.prog 53 [.int .i64 n, .ref 0 m] [.row 3 (.ints .i64 p)] (.ref 1 (ordL n.toNat (n.toNat - p.length) p).length) [.gone, .row 22 (.rows (some 3) (ordL n.toNat (n.toNat - p.length) p))]) ∧ ((¬ p.length = n.toNat) → ARuns Try.prog 53 [.int .i64 n, .ref 0 m] [.row 3 (.ints .i64 p)] (.ref 1 (ordL n.toNat (n.toNat - p.length) p).length) [.gone, .row 22 (.rows (some 3) (ordL n.toNat (n.toNat - p.length) p))]) := by
  intro N
  induction N using Nat.strongRecOn with
  | _ N ih =>
  have hok : (G_spec_l8Orders N).ok Try.prog := Gm.add_ok Gm.none_ok (by
    intro args giv K hk
    unfold spR_spec_l8Orders at hk
    split at hk
    · obtain ⟨hlt, hp1, hp2, hp3, hk1, hk2⟩ := hk
      exact pk_em (fun hc => ⟨_, _, (ih _ hlt _ _ _ hp1 hp2 hp3 rfl).1 hc, hk1 hc⟩) (fun hc => ⟨_, _, (ih _ hlt _ _ _ hp1 hp2 hp3 rfl).2 hc, hk2 hc⟩)
    · exact hk.elim)
  intro n p m hp1 hp2 hp3 hm
  exact ⟨fun hc => runs_spec_l8Orders_1_st hok n p m hp1 hp2 hp3 hc hm, fun hc => runs_spec_l8Orders_2_st hok n p m hp1 hp2 hp3 hc hm⟩
theorem runs_spec_l8Orders_1 (n : Int) (p : List Int) (m : Nat) (hp1 : 0 ≤ n ∧ n ≤ 6) (hp2 : m = p.length) (hp3 : p.length ≤ n.toNat) (hc : p.length = n.toNat) : ARuns Try.prog 53 [.int .i64 n, .ref 0 m] [.row 3 (.ints .i64 p)] (.ref 1 (ordL n.toNat (n.toNat - p.length) p).length) [.gone, .row 22 (.rows (some 3) (ordL n.toNat (n.toNat - p.length) p))] := (runs_spec_l8Orders_aux _ n p m hp1 hp2 hp3 rfl).1 hc
theorem runs_spec_l8Orders_2 (n : Int) (p : List Int) (m : Nat) (hp1 : 0 ≤ n ∧ n ≤ 6) (hp2 : m = p.length) (hp3 : p.length ≤ n.toNat) (hc : ¬ p.length = n.toNat) : ARuns Try.prog 53 [.int .i64 n, .ref 0 m] [.row 3 (.ints .i64 p)] (.ref 1 (ordL n.toNat (n.toNat - p.length) p).length) [.gone, .row 22 (.rows (some 3) (ordL n.toNat (n.toNat - p.length) p))] := (runs_spec_l8Orders_aux _ n p m hp1 hp2 hp3 rfl).2 hc
def sp_spec_l8Orders : List AV → List Bx → (AV → List Bx → Prop) → Prop
  | [.int .i64 n, .ref 0 m], [.row 3 (.ints .i64 p)], K => (0 ≤ n ∧ n ≤ 6) ∧ (m = p.length) ∧ (p.length ≤ n.toNat) ∧ (p.length = n.toNat → K (.ref 1 (ordL n.toNat (n.toNat - p.length) p).length) [.gone, .row 22 (.rows (some 3) (ordL n.toNat (n.toNat - p.length) p))]) ∧ (¬ p.length = n.toNat → K (.ref 1 (ordL n.toNat (n.toNat - p.length) p).length) [.gone, .row 22 (.rows (some 3) (ordL n.toNat (n.toNat - p.length) p))])
  | _, _, _ => False
theorem at_spec_l8Orders {n : Int} {p : List Int} {m : Nat} {K : AV → List Bx → Prop} : sp_spec_l8Orders [.int .i64 n, .ref 0 m] [.row 3 (.ints .i64 p)] K = ((0 ≤ n ∧ n ≤ 6) ∧ (m = p.length) ∧ (p.length ≤ n.toNat) ∧ (p.length = n.toNat → K (.ref 1 (ordL n.toNat (n.toNat - p.length) p).length) [.gone, .row 22 (.rows (some 3) (ordL n.toNat (n.toNat - p.length) p))]) ∧ (¬ p.length = n.toNat → K (.ref 1 (ordL n.toNat (n.toNat - p.length) p).length) [.gone, .row 22 (.rows (some 3) (ordL n.toNat (n.toNat - p.length) p))])) := id rfl
theorem ok_spec_l8Orders : ∀ args giv K, sp_spec_l8Orders args giv K → ∃ r outs, ARuns Try.prog 53 args giv r outs ∧ K r outs := by
  intro args giv K hk
  unfold sp_spec_l8Orders at hk
  split at hk
  · obtain ⟨hp1, hp2, hp3, hk1, hk2⟩ := hk
    exact pk_em (fun hc => ⟨_, _, runs_spec_l8Orders_1 _ _ _ hp1 hp2 hp3 hc, hk1 hc⟩) (fun hc => ⟨_, _, runs_spec_l8Orders_2 _ _ _ hp1 hp2 hp3 hc, hk2 hc⟩)
  · exact hk.elim
theorem is_spec_l2Size : FnIs Try.prog 66 15 [.tmp 2] (Try.f66.body.getD .skip) := ⟨⟨Try.f66, by kernel_rfl, by kernel_rfl, by kernel_rfl, by kernel_rfl⟩, by kernel_rfl, by kernel_rfl⟩
def G_spec_l2Size : Gm := Gm.none
theorem G_spec_l2Size_ok : G_spec_l2Size.ok Try.prog := Gm.none_ok
set_option maxHeartbeats 1000000 in
set_option maxRecDepth 100000 in
theorem runs_spec_l2Size (s : Int) (hp1 : 0 ≤ s ∧ s < 2 ^ 63) : ARuns Try.prog 66 [.int .i64 s] [] (.int .i64 (popI s)) [] := by
  refine ARuns_bc G_spec_l2Size_ok is_spec_l2Size (by simp) fun hl hlB => ?_
  simp only [kcode_at, kreg_at, bc_skip, bc_seq, bc_cond, bc_block, bc_exit, bc_ret, bc_region, lkX_cons, acond_tmp, aCase_t, aCase_f, aCase_b, afin_nil, cvE_some, resL, resV, resC, cv, cvL, pack, entryE, inPrm, Option.getD_some, acall_clo, add_sp, add_lend, kcall_nil, selOf, selC, selA, inArgs, inA, inL, okA, okL, okBx, okC, outA, outL, outU, outB, deep, deepL, boxIds, AV.bid, List.map_nil, List.map_cons, List.all_nil, List.all_cons, BEq.rfl, Bool.and_true, Bool.true_and, List.append_nil, aops_nil, aops_plain, aops_guard, kont_at, yes_at, no_at, aop_move, aop_assign, aop_pick, aop_alloc, aop_box, aop_build, aop_buildSlice, aop_load, aop_store, aop_nilCheck, aop_binOp, aop_unOp, aop_convert, aop_fieldAddr, aop_indexAddr, aop_slice, aop_extract, aop_makeSlice, aop_len, aop_max, aMax_int, slTy2, SC0, aop_append, aop_call, evalE, getE, putE, getB, setB, St.put, setsB, nth, AV.ofV, AV.blk, AV.bid, AV.one, SC.len, SC.get, List.length_nil, List.length_cons, Nat.reduceEqDiff, Nat.reduceAdd, ↓reduceIte, true_and, and_true, Bool.true_eq_false, Bool.false_eq_true, false_imp_iff, true_imp_iff, decide_eq_true_eq, Bool.not_eq_true', Bool.not_eq_false', decide_eq_false_iff_not, Option.isSome, List.nil_append, List.cons_append, aGuardO_some, aGuard_tt, aGuard_tf, aGuard_ft, aGuard_ff, aGuard_tb, aGuard_fb, aGuard_ts, aGuard_fs, aPick_b, aPick_t, aPick_f, aAlloc_one, aAlloc_flat, aBox_some, aBuild_flat, aInt_add, aBin_add, aInt_sub, aBin_sub, aInt_mul, aBin_mul, aInt_quo, aBin_quo, aInt_rem, aBin_rem, aInt_and, aBin_and, aInt_or, aBin_or, aInt_xor, aBin_xor, aInt_andNot, aBin_andNot, aInt_eql, aBin_eql, aInt_neq, aBin_neq, aInt_lss, aBin_lss, aInt_leq, aBin_leq, aInt_gtr, aBin_gtr, aInt_geq, aBin_geq, aBin_shl, aBin_shr, aShift_shl, aShift_shr, aBin_be1, aBin_bn1, aBin_be2, aBin_bn2, aBin_be3, aBin_bn3, aBin_be4, aBin_bn4, aBin_be5, aBin_bn5, aBin_be6, aBin_bn6, aBin_be7, aBin_bn7, aBin_be8, aBin_bn8, aBin_be9, aBin_bn9, aUn_b, aUn_t, aUn_f, aUn_i, aNil_ptr, aNil_pv, aConv_int, aField_ptr, aField_pv, aIdx_sl, aIdx_prm, aIdx_row, aIdx_drow, aMake_i, aMake_s, aExtr_tup, aLen_ref, aLen_nil, aLen_sl, aLen_prm, aLen_str, aBuildL_some, aBuildS_some, aLoad_1b, aLoad_1d, aLoad_fb, aLoad_fd, aLoad_1p, aLoad_fp, aLoad_ep, aLoad_rr, aLoad_rd, aStore_1, aStore_f, aStore_r, aApp_some, aAppend_nil, aAppend_ref, aSlice_h, aSlice_l, aSlice_lh, aop_slice3, aSlice3_r, aop_field, aFld_agg, aBinW_f, aBinW_t, aWrap_mul, aWrap_add, isW_tmp, isW_mulc, isW_addc, isW_sub, isW_quo, isW_rem, isW_and, isW_or, isW_xor, isW_andNot, isW_shl, isW_shr, isW_eql, isW_neq, isW_lss, isW_leq, isW_gtr, isW_geq, Int.reduceLT, aBinW_dF, aBinW_dT, bc_draw, kregD_at, aopsD_nil, aopsD_plain, aopsD_guard, kontD_at, contD_at, yesD_at, noD_at, splD_bool, splD_undef, splD_skip, splD_int, splD_tt, splD_ff, splD_str, splD_nil, splD_sl, splD_prm, splD_ref, splD_ptr, splD_rp, splD_ep, splD_pv, splD_agg, splD_tup, splD_clo, gD_tt, gD_tf, gD_ft, gD_ff, gD_ts, gD_fs, slotO_some, addTr_nil, addTr_cons, memQ_nil, memQ_cons, clash_nil, clash_cons, regC_none, regC_nil, regC_cons, regR_nil, regR_cons, Int.toNat_zero, Int.toNat_one, rng0, rng1, rng2, rng3, rng4, SC.take, SC.drop, mp_nil, acond_ct, acond_cf, mp_one0, mp_one1, mp_one2, mp_one3, kcall_one, liveB_row, liveB_box, idx, cont, still, dies, lend, lendA, lendDies, snocs, SC.snoc, SC.app, meet, AV.cells, fillA, List.getD_cons_zero, List.getD_cons_succ, List.set_cons_zero, List.set_cons_succ, List.length_singleton, Nat.le_refl, Nat.lt_irrefl, Nat.reduceLT, Nat.reduceLeDiff, Option.map_some, Option.map_none, List.flatMap_nil, List.flatMap_cons, Nat.zero_add, BEq.rfl, kcall_two, mp_two0, mp_two1, mp_two2, mp_two3, mp_two4, aop_makeFunc, plainA, Bool.true_and, sl3, ty3, un3, sl49, ty49, un49, sl71, ty71, un71, sl69, ty69, un69, sl5, ty5, un5, sl2, ty2, un2, sl21, ty21, un21, sl4, ty4, un4, sl9, un9, sl22, ty22, un22, sl31, ty31, un31, sl36, sl53, ty38, sl38, ty41, sl41, inR64, inRu64, inRu32, Try.f66]
  refine bc_loop (fun p : Nat × Nat => p.1 ≤ s.toNat ∧ p.2 + pop p.1 = pop s.toNat)
    (fun p => ⟨[(3, .int .i64 p.2), (4, .int .i64 p.1)], []⟩) (fun p => p.1)
    [3, 4] [] (s.toNat, 0) rfl (by simp [St.conv, getE, cv]; omega) (by simp) fun ⟨x, n⟩ ⟨h1, h2⟩ => ?_
  simp only [kcode_at, kreg_at, bc_skip, bc_seq, bc_cond, bc_block, bc_exit, bc_ret, bc_region, lkX_cons, acond_tmp, aCase_t, aCase_f, aCase_b, afin_nil, cvE_some, resL, resV, resC, cv, cvL, pack, entryE, inPrm, Option.getD_some, acall_clo, add_sp, add_lend, kcall_nil, selOf, selC, selA, inArgs, inA, inL, okA, okL, okBx, okC, outA, outL, outU, outB, deep, deepL, boxIds, AV.bid, List.map_nil, List.map_cons, List.all_nil, List.all_cons, BEq.rfl, Bool.and_true, Bool.true_and, List.append_nil, aops_nil, aops_plain, aops_guard, kont_at, yes_at, no_at, aop_move, aop_assign, aop_pick, aop_alloc, aop_box, aop_build, aop_buildSlice, aop_load, aop_store, aop_nilCheck, aop_binOp, aop_unOp, aop_convert, aop_fieldAddr, aop_indexAddr, aop_slice, aop_extract, aop_makeSlice, aop_len, aop_max, aMax_int, slTy2, SC0, aop_append, aop_call, evalE, getE, putE, getB, setB, St.put, setsB, nth, AV.ofV, AV.blk, AV.bid, AV.one, SC.len, SC.get, List.length_nil, List.length_cons, Nat.reduceEqDiff, Nat.reduceAdd, ↓reduceIte, true_and, and_true, Bool.true_eq_false, Bool.false_eq_true, false_imp_iff, true_imp_iff, decide_eq_true_eq, Bool.not_eq_true', Bool.not_eq_false', decide_eq_false_iff_not, Option.isSome, List.nil_append, List.cons_append, aGuardO_some, aGuard_tt, aGuard_tf, aGuard_ft, aGuard_ff, aGuard_tb, aGuard_fb, aGuard_ts, aGuard_fs, aPick_b, aPick_t, aPick_f, aAlloc_one, aAlloc_flat, aBox_some, aBuild_flat, aInt_add, aBin_add, aInt_sub, aBin_sub, aInt_mul, aBin_mul, aInt_quo, aBin_quo, aInt_rem, aBin_rem, aInt_and, aBin_and, aInt_or, aBin_or, aInt_xor, aBin_xor, aInt_andNot, aBin_andNot, aInt_eql, aBin_eql, aInt_neq, aBin_neq, aInt_lss, aBin_lss, aInt_leq, aBin_leq, aInt_gtr, aBin_gtr, aInt_geq, aBin_geq, aBin_shl, aBin_shr, aShift_shl, aShift_shr, aBin_be1, aBin_bn1, aBin_be2, aBin_bn2, aBin_be3, aBin_bn3, aBin_be4, aBin_bn4, aBin_be5, aBin_bn5, aBin_be6, aBin_bn6, aBin_be7, aBin_bn7, aBin_be8, aBin_bn8, aBin_be9, aBin_bn9, aUn_b, aUn_t, aUn_f, aUn_i, aNil_ptr, aNil_pv, aConv_int, aField_ptr, aField_pv, aIdx_sl, aIdx_prm, aIdx_row, aIdx_drow, aMake_i, aMake_s, aExtr_tup, aLen_ref, aLen_nil, aLen_sl, aLen_prm, aLen_str, aBuildL_some, aBuildS_some, aLoad_1b, aLoad_1d, aLoad_fb, aLoad_fd, aLoad_1p, aLoad_fp, aLoad_ep, aLoad_rr, aLoad_rd, aStore_1, aStore_f, aStore_r, aApp_some, aAppend_nil, aAppend_ref, aSlice_h, aSlice_l, aSlice_lh, aop_slice3, aSlice3_r, aop_field, aFld_agg, aBinW_f, aBinW_t, aWrap_mul, aWrap_add, isW_tmp, isW_mulc, isW_addc, isW_sub, isW_quo, isW_rem, isW_and, isW_or, isW_xor, isW_andNot, isW_shl, isW_shr, isW_eql, isW_neq, isW_lss, isW_leq, isW_gtr, isW_geq, Int.reduceLT, aBinW_dF, aBinW_dT, bc_draw, kregD_at, aopsD_nil, aopsD_plain, aopsD_guard, kontD_at, contD_at, yesD_at, noD_at, splD_bool, splD_undef, splD_skip, splD_int, splD_tt, splD_ff, splD_str, splD_nil, splD_sl, splD_prm, splD_ref, splD_ptr, splD_rp, splD_ep, splD_pv, splD_agg, splD_tup, splD_clo, gD_tt, gD_tf, gD_ft, gD_ff, gD_ts, gD_fs, slotO_some, addTr_nil, addTr_cons, memQ_nil, memQ_cons, clash_nil, clash_cons, regC_none, regC_nil, regC_cons, regR_nil, regR_cons, Int.toNat_zero, Int.toNat_one, rng0, rng1, rng2, rng3, rng4, SC.take, SC.drop, mp_nil, acond_ct, acond_cf, mp_one0, mp_one1, mp_one2, mp_one3, kcall_one, liveB_row, liveB_box, idx, cont, still, dies, lend, lendA, lendDies, snocs, SC.snoc, SC.app, meet, AV.cells, fillA, List.getD_cons_zero, List.getD_cons_succ, List.set_cons_zero, List.set_cons_succ, List.length_singleton, Nat.le_refl, Nat.lt_irrefl, Nat.reduceLT, Nat.reduceLeDiff, Option.map_some, Option.map_none, List.flatMap_nil, List.flatMap_cons, Nat.zero_add, BEq.rfl, kcall_two, mp_two0, mp_two1, mp_two2, mp_two3, mp_two4, aop_makeFunc, plainA, Bool.true_and, sl3, ty3, un3, sl49, ty49, un49, sl71, ty71, un71, sl69, ty69, un69, sl5, ty5, un5, sl2, ty2, un2, sl21, ty21, un21, sl4, ty4, un4, sl9, un9, sl22, ty22, un22, sl31, ty31, un31, sl36, sl53, ty38, sl38, ty41, sl41, inR64, inRu64, inRu32]
  simp only at h1 h2
  have hx : x < 2 ^ 64 := by omega
  have b1 := band_one (x := (x : Int)) (by omega)
  have hp := pop_step hx
  have hl := @pop_le s.toNat
  rw [b1]
  refine ⟨fun h => ⟨by omega, ⟨by omega, by simp [IntKind.bits]⟩, ?_⟩, fun h => ?_⟩
  · refine klp_of (x / 2, n + x % 2) ?_ ⟨?_, ?_⟩ ?_
    · simp [St.conv, getE, cv]
    · simp only; omega
    · simp only; omega
    · simp only; omega
  · have : x = 0 := by omega
    subst this
    rw [pop_zero] at h2
    unfold popI; rw [← h2]; rfl
def lend_spec_l2Size : List Nat := []
def sp_spec_l2Size : List AV → List Bx → (AV → List Bx → Prop) → Prop
  | [.int .i64 s], [], K => (0 ≤ s ∧ s < 2 ^ 63) ∧ K (.int .i64 (popI s)) []
  | _, _, _ => False
theorem at_spec_l2Size {s : Int} {K : AV → List Bx → Prop} : sp_spec_l2Size [.int .i64 s] [] K = ((0 ≤ s ∧ s < 2 ^ 63) ∧ K (.int .i64 (popI s)) []) := id rfl
theorem ok_spec_l2Size : ∀ args giv K, sp_spec_l2Size args giv K → ∃ r outs, ARuns Try.prog 66 args giv r outs ∧ K r outs := by
  intro args giv K hk
  unfold sp_spec_l2Size at hk
  split at hk
  · obtain ⟨hp1, hk⟩ := hk; exact ⟨_, _, runs_spec_l2Size _ hp1, hk⟩
  · exact hk.elim
theorem is_spec_l27Ends : FnIs Try.prog 62 41 [.tmp 4, .tmp 5, .tmp 6] (Try.f62.body.getD .skip) := ⟨⟨Try.f62, by kernel_rfl, by kernel_rfl, by kernel_rfl, by kernel_rfl⟩, by kernel_rfl, by kernel_rfl⟩
def G_spec_l27Ends : Gm := (Gm.none.add 66 lend_spec_l2Size sp_spec_l2Size)
theorem G_spec_l27Ends_ok : G_spec_l27Ends.ok Try.prog := (Gm.add_ok Gm.none_ok ok_spec_l2Size)
theorem gs_spec_l27Ends_66 : G_spec_l27Ends.sp 66 = sp_spec_l2Size ∧ G_spec_l27Ends.lend 66 = lend_spec_l2Size := ⟨rfl, rfl⟩
set_option maxHeartbeats 1000000 in
set_option maxRecDepth 100000 in
theorem runs_spec_l27Ends (xs : List Int) (s : Int) (hp1 : xs.length ≤ 6) (hp2 : ∀ i, i < xs.length → 0 ≤ xs.getD i 0 ∧ xs.getD i 0 < 6) (hp3 : 0 ≤ s ∧ s < 2 ^ 63) : ARuns Try.prog 62 [.sl none (.ints .i64 xs), .int .i64 s] [] (.tup [.int .i64 (firstF xs s xs.length), .int .i64 (lastF xs s xs.length), .bool (decide (0 ≤ firstF xs s xs.length) && wide xs s)]) [] := by
  refine ARuns_bc G_spec_l27Ends_ok is_spec_l27Ends (by simp) fun hl hlB => ?_
  simp only [kcode_at, kreg_at, bc_skip, bc_seq, bc_cond, bc_block, bc_exit, bc_ret, bc_region, lkX_cons, acond_tmp, aCase_t, aCase_f, aCase_b, afin_nil, cvE_some, resL, resV, resC, cv, cvL, pack, entryE, inPrm, Option.getD_some, acall_clo, add_sp, add_lend, kcall_nil, selOf, selC, selA, inArgs, inA, inL, okA, okL, okBx, okC, outA, outL, outU, outB, deep, deepL, boxIds, AV.bid, List.map_nil, List.map_cons, List.all_nil, List.all_cons, BEq.rfl, Bool.and_true, Bool.true_and, List.append_nil, aops_nil, aops_plain, aops_guard, kont_at, yes_at, no_at, aop_move, aop_assign, aop_pick, aop_alloc, aop_box, aop_build, aop_buildSlice, aop_load, aop_store, aop_nilCheck, aop_binOp, aop_unOp, aop_convert, aop_fieldAddr, aop_indexAddr, aop_slice, aop_extract, aop_makeSlice, aop_len, aop_max, aMax_int, slTy2, SC0, aop_append, aop_call, evalE, getE, putE, getB, setB, St.put, setsB, nth, AV.ofV, AV.blk, AV.bid, AV.one, SC.len, SC.get, List.length_nil, List.length_cons, Nat.reduceEqDiff, Nat.reduceAdd, ↓reduceIte, true_and, and_true, Bool.true_eq_false, Bool.false_eq_true, false_imp_iff, true_imp_iff, decide_eq_true_eq, Bool.not_eq_true', Bool.not_eq_false', decide_eq_false_iff_not, Option.isSome, List.nil_append, List.cons_append, aGuardO_some, aGuard_tt, aGuard_tf, aGuard_ft, aGuard_ff, aGuard_tb, aGuard_fb, aGuard_ts, aGuard_fs, aPick_b, aPick_t, aPick_f, aAlloc_one, aAlloc_flat, aBox_some, aBuild_flat, aInt_add, aBin_add, aInt_sub, aBin_sub, aInt_mul, aBin_mul, aInt_quo, aBin_quo, aInt_rem, aBin_rem, aInt_and, aBin_and, aInt_or, aBin_or, aInt_xor, aBin_xor, aInt_andNot, aBin_andNot, aInt_eql, aBin_eql, aInt_neq, aBin_neq, aInt_lss, aBin_lss, aInt_leq, aBin_leq, aInt_gtr, aBin_gtr, aInt_geq, aBin_geq, aBin_shl, aBin_shr, aShift_shl, aShift_shr, aBin_be1, aBin_bn1, aBin_be2, aBin_bn2, aBin_be3, aBin_bn3, aBin_be4, aBin_bn4, aBin_be5, aBin_bn5, aBin_be6, aBin_bn6, aBin_be7, aBin_bn7, aBin_be8, aBin_bn8, aBin_be9, aBin_bn9, aUn_b, aUn_t, aUn_f, aUn_i, aNil_ptr, aNil_pv, aConv_int, aField_ptr, aField_pv, aIdx_sl, aIdx_prm, aIdx_row, aIdx_drow, aMake_i, aMake_s, aExtr_tup, aLen_ref, aLen_nil, aLen_sl, aLen_prm, aLen_str, aBuildL_some, aBuildS_some, aLoad_1b, aLoad_1d, aLoad_fb, aLoad_fd, aLoad_1p, aLoad_fp, aLoad_ep, aLoad_rr, aLoad_rd, aStore_1, aStore_f, aStore_r, aApp_some, aAppend_nil, aAppend_ref, aSlice_h, aSlice_l, aSlice_lh, aop_slice3, aSlice3_r, aop_field, aFld_agg, aBinW_f, aBinW_t, aWrap_mul, aWrap_add, isW_tmp, isW_mulc, isW_addc, isW_sub, isW_quo, isW_rem, isW_and, isW_or, isW_xor, isW_andNot, isW_shl, isW_shr, isW_eql, isW_neq, isW_lss, isW_leq, isW_gtr, isW_geq, Int.reduceLT, aBinW_dF, aBinW_dT, bc_draw, kregD_at, aopsD_nil, aopsD_plain, aopsD_guard, kontD_at, contD_at, yesD_at, noD_at, splD_bool, splD_undef, splD_skip, splD_int, splD_tt, splD_ff, splD_str, splD_nil, splD_sl, splD_prm, splD_ref, splD_ptr, splD_rp, splD_ep, splD_pv, splD_agg, splD_tup, splD_clo, gD_tt, gD_tf, gD_ft, gD_ff, gD_ts, gD_fs, slotO_some, addTr_nil, addTr_cons, memQ_nil, memQ_cons, clash_nil, clash_cons, regC_none, regC_nil, regC_cons, regR_nil, regR_cons, Int.toNat_zero, Int.toNat_one, rng0, rng1, rng2, rng3, rng4, SC.take, SC.drop, mp_nil, acond_ct, acond_cf, mp_one0, mp_one1, mp_one2, mp_one3, kcall_one, liveB_row, liveB_box, idx, cont, still, dies, lend, lendA, lendDies, snocs, SC.snoc, SC.app, meet, AV.cells, fillA, List.getD_cons_zero, List.getD_cons_succ, List.set_cons_zero, List.set_cons_succ, List.length_singleton, Nat.le_refl, Nat.lt_irrefl, Nat.reduceLT, Nat.reduceLeDiff, Option.map_some, Option.map_none, List.flatMap_nil, List.flatMap_cons, Nat.zero_add, BEq.rfl, kcall_two, mp_two0, mp_two1, mp_two2, mp_two3, mp_two4, aop_makeFunc, plainA, Bool.true_and, sl3, ty3, un3, sl49, ty49, un49, sl71, ty71, un71, sl69, ty69, un69, sl5, ty5, un5, sl2, ty2, un2, sl21, ty21, un21, sl4, ty4, un4, sl9, un9, sl22, ty22, un22, sl31, ty31, un31, sl36, sl53, ty38, sl38, ty41, sl41, inR64, inRu64, inRu32, gs_spec_l27Ends_66, at_spec_l2Size, lend_spec_l2Size, Try.f62]
  simp only [lensA, lenA, lenSC] at hl
  refine bc_loop (fun i : Nat => i ≤ xs.length)
    (fun i => ⟨[(0, .prm 0 (.ints .i64 xs)), (1, .int .i64 s), (7, .int .i64 (firstF xs s i)), (8, .int .i64 (lastF xs s i)), (9, .int .i64 i)], []⟩) (fun i => xs.length - i)
    [0, 1, 7, 8, 9] [] 0 rfl rfl (by simp) fun i h1 => ?_
  simp only [kcode_at, kreg_at, bc_skip, bc_seq, bc_cond, bc_block, bc_exit, bc_ret, bc_region, lkX_cons, acond_tmp, aCase_t, aCase_f, aCase_b, afin_nil, cvE_some, resL, resV, resC, cv, cvL, pack, entryE, inPrm, Option.getD_some, acall_clo, add_sp, add_lend, kcall_nil, selOf, selC, selA, inArgs, inA, inL, okA, okL, okBx, okC, outA, outL, outU, outB, deep, deepL, boxIds, AV.bid, List.map_nil, List.map_cons, List.all_nil, List.all_cons, BEq.rfl, Bool.and_true, Bool.true_and, List.append_nil, aops_nil, aops_plain, aops_guard, kont_at, yes_at, no_at, aop_move, aop_assign, aop_pick, aop_alloc, aop_box, aop_build, aop_buildSlice, aop_load, aop_store, aop_nilCheck, aop_binOp, aop_unOp, aop_convert, aop_fieldAddr, aop_indexAddr, aop_slice, aop_extract, aop_makeSlice, aop_len, aop_max, aMax_int, slTy2, SC0, aop_append, aop_call, evalE, getE, putE, getB, setB, St.put, setsB, nth, AV.ofV, AV.blk, AV.bid, AV.one, SC.len, SC.get, List.length_nil, List.length_cons, Nat.reduceEqDiff, Nat.reduceAdd, ↓reduceIte, true_and, and_true, Bool.true_eq_false, Bool.false_eq_true, false_imp_iff, true_imp_iff, decide_eq_true_eq, Bool.not_eq_true', Bool.not_eq_false', decide_eq_false_iff_not, Option.isSome, List.nil_append, List.cons_append, aGuardO_some, aGuard_tt, aGuard_tf, aGuard_ft, aGuard_ff, aGuard_tb, aGuard_fb, aGuard_ts, aGuard_fs, aPick_b, aPick_t, aPick_f, aAlloc_one, aAlloc_flat, aBox_some, aBuild_flat, aInt_add, aBin_add, aInt_sub, aBin_sub, aInt_mul, aBin_mul, aInt_quo, aBin_quo, aInt_rem, aBin_rem, aInt_and, aBin_and, aInt_or, aBin_or, aInt_xor, aBin_xor, aInt_andNot, aBin_andNot, aInt_eql, aBin_eql, aInt_neq, aBin_neq, aInt_lss, aBin_lss, aInt_leq, aBin_leq, aInt_gtr, aBin_gtr, aInt_geq, aBin_geq, aBin_shl, aBin_shr, aShift_shl, aShift_shr, aBin_be1, aBin_bn1, aBin_be2, aBin_bn2, aBin_be3, aBin_bn3, aBin_be4, aBin_bn4, aBin_be5, aBin_bn5, aBin_be6, aBin_bn6, aBin_be7, aBin_bn7, aBin_be8, aBin_bn8, aBin_be9, aBin_bn9, aUn_b, aUn_t, aUn_f, aUn_i, aNil_ptr, aNil_pv, aConv_int, aField_ptr, aField_pv, aIdx_sl, aIdx_prm, aIdx_row, aIdx_drow, aMake_i, aMake_s, aExtr_tup, aLen_ref, aLen_nil, aLen_sl, aLen_prm, aLen_str, aBuildL_some, aBuildS_some, aLoad_1b, aLoad_1d, aLoad_fb, aLoad_fd, aLoad_1p, aLoad_fp, aLoad_ep, aLoad_rr, aLoad_rd, aStore_1, aStore_f, aStore_r, aApp_some, aAppend_nil, aAppend_ref, aSlice_h, aSlice_l, aSlice_lh, aop_slice3, aSlice3_r, aop_field, aFld_agg, aBinW_f, aBinW_t, aWrap_mul, aWrap_add, isW_tmp, isW_mulc, isW_addc, isW_sub, isW_quo, isW_rem, isW_and, isW_or, isW_xor, isW_andNot, isW_shl, isW_shr, isW_eql, isW_neq, isW_lss, isW_leq, isW_gtr, isW_geq, Int.reduceLT, aBinW_dF, aBinW_dT, bc_draw, kregD_at, aopsD_nil, aopsD_plain, aopsD_guard, kontD_at, contD_at, yesD_at, noD_at, splD_bool, splD_undef, splD_skip, splD_int, splD_tt, splD_ff, splD_str, splD_nil, splD_sl, splD_prm, splD_ref, splD_ptr, splD_rp, splD_ep, splD_pv, splD_agg, splD_tup, splD_clo, gD_tt, gD_tf, gD_ft, gD_ff, gD_ts, gD_fs, slotO_some, addTr_nil, addTr_cons, memQ_nil, memQ_cons, clash_nil, clash_cons, regC_none, regC_nil, regC_cons, regR_nil, regR_cons, Int.toNat_zero, Int.toNat_one, rng0, rng1, rng2, rng3, rng4, SC.take, SC.drop, mp_nil, acond_ct, acond_cf, mp_one0, mp_one1, mp_one2, mp_one3, kcall_one, liveB_row, liveB_box, idx, cont, still, dies, lend, lendA, lendDies, snocs, SC.snoc, SC.app, meet, AV.cells, fillA, List.getD_cons_zero, List.getD_cons_succ, List.set_cons_zero, List.set_cons_succ, List.length_singleton, Nat.le_refl, Nat.lt_irrefl, Nat.reduceLT, Nat.reduceLeDiff, Option.map_some, Option.map_none, List.flatMap_nil, List.flatMap_cons, Nat.zero_add, BEq.rfl, kcall_two, mp_two0, mp_two1, mp_two2, mp_two3, mp_two4, aop_makeFunc, plainA, Bool.true_and, sl3, ty3, un3, sl49, ty49, un49, sl71, ty71, un71, sl69, ty69, un69, sl5, ty5, un5, sl2, ty2, un2, sl21, ty21, un21, sl4, ty4, un4, sl9, un9, sl22, ty22, un22, sl31, ty31, un31, sl36, sl53, ty38, sl38, ty41, sl41, inR64, inRu64, inRu32, gs_spec_l27Ends_66, at_spec_l2Size, lend_spec_l2Size, Int.toNat_natCast]
  simp only [IntKind.bits]
  refine ⟨fun hi => ?_, fun hi => ?_⟩
  · have hx := hp2 i (by omega)
    refine ⟨by omega, by omega, fun hh => ⟨fun h0 => ⟨by omega, ?_⟩, fun h0 => ⟨by omega, ?_⟩⟩, fun hh => ⟨by omega, ?_⟩⟩
    · exact klp_of (i + 1) (by rw [lastF_t hh, firstF_t hh, if_pos h0]; simp [St.conv, St.bf, getE, putE, getB, cv, cvL, cvB, idx, still, pack, lifts, liftOne, cellsOfB, setB]) (by omega) (by omega)
    · exact klp_of (i + 1) (by rw [lastF_t hh, firstF_t hh, if_neg h0]; simp [St.conv, St.bf, getE, putE, getB, cv, cvL, cvB, idx, still, pack, lifts, liftOne, cellsOfB, setB]) (by omega) (by omega)
    · exact klp_of (i + 1) (by rw [lastF_f hh, firstF_f hh]; simp [St.conv, St.bf, getE, putE, getB, cv, cvL, cvB, idx, still, pack, lifts, liftOne, cellsOfB, setB]) (by omega) (by omega)
  · have : i = xs.length := by omega
    subst this
    have hb := ends_bd (xs := xs) (s := s) (n := xs.length)
    refine ⟨fun h0 => ⟨by omega, by omega, hp3, ?_⟩, fun h0 => ?_⟩
    · rw [decide_eq_true h0]; rfl
    · rw [decide_eq_false h0]; rfl
def lend_spec_l27Ends : List Nat := []
def sp_spec_l27Ends : List AV → List Bx → (AV → List Bx → Prop) → Prop
  | [.sl none (.ints .i64 xs), .int .i64 s], [], K => (xs.length ≤ 6) ∧ (∀ i, i < xs.length → 0 ≤ xs.getD i 0 ∧ xs.getD i 0 < 6) ∧ (0 ≤ s ∧ s < 2 ^ 63) ∧ K (.tup [.int .i64 (firstF xs s xs.length), .int .i64 (lastF xs s xs.length), .bool (decide (0 ≤ firstF xs s xs.length) && wide xs s)]) []
  | _, _, _ => False
theorem at_spec_l27Ends {xs : List Int} {s : Int} {K : AV → List Bx → Prop} : sp_spec_l27Ends [.sl none (.ints .i64 xs), .int .i64 s] [] K = ((xs.length ≤ 6) ∧ (∀ i, i < xs.length → 0 ≤ xs.getD i 0 ∧ xs.getD i 0 < 6) ∧ (0 ≤ s ∧ s < 2 ^ 63) ∧ K (.tup [.int .i64 (firstF xs s xs.length), .int .i64 (lastF xs s xs.length), .bool (decide (0 ≤ firstF xs s xs.length) && wide xs s)]) []) := id rfl
theorem ok_spec_l27Ends : ∀ args giv K, sp_spec_l27Ends args giv K → ∃ r outs, ARuns Try.prog 62 args giv r outs ∧ K r outs := by
  intro args giv K hk
  unfold sp_spec_l27Ends at hk
  split at hk
  · obtain ⟨hp1, hp2, hp3, hk⟩ := hk; exact ⟨_, _, runs_spec_l27Ends _ _ hp1 hp2 hp3, hk⟩
  · exact hk.elim
theorem is_spec_l27Fits : FnIs Try.prog 54 34 [.tmp 4] (Try.f54.body.getD .skip) := ⟨⟨Try.f54, by kernel_rfl, by kernel_rfl, by kernel_rfl, by kernel_rfl⟩, by kernel_rfl, by kernel_rfl⟩
def G_spec_l27Fits : Gm := (Gm.none.add 62 lend_spec_l27Ends sp_spec_l27Ends)
theorem G_spec_l27Fits_ok : G_spec_l27Fits.ok Try.prog := (Gm.add_ok Gm.none_ok ok_spec_l27Ends)
theorem gs_spec_l27Fits_62 : G_spec_l27Fits.sp 62 = sp_spec_l27Ends ∧ G_spec_l27Fits.lend 62 = lend_spec_l27Ends := ⟨rfl, rfl⟩
set_option maxHeartbeats 1000000 in
set_option maxRecDepth 100000 in
theorem runs_spec_l27Fits (xs order : List Int) (hp1 : order.length ≤ 6 ∧ permB order.length order = true) (hp2 : ∀ i, i < xs.length → 0 ≤ xs.getD i 0 ∧ xs.getD i 0 ≤ 63 ∧ xs.getD i 0 ≤ fullI order.length) : ARuns Try.prog 54 [.sl none (.ints .i64 xs), .sl none (.ints .i64 order)] [] (.bool (fitB xs order)) [] := by
  refine ARuns_bc G_spec_l27Fits_ok is_spec_l27Fits (by simp) fun hl hlB => ?_
  simp only [kcode_at, kreg_at, bc_skip, bc_seq, bc_cond, bc_block, bc_exit, bc_ret, bc_region, lkX_cons, acond_tmp, aCase_t, aCase_f, aCase_b, afin_nil, cvE_some, resL, resV, resC, cv, cvL, pack, entryE, inPrm, Option.getD_some, acall_clo, add_sp, add_lend, kcall_nil, selOf, selC, selA, inArgs, inA, inL, okA, okL, okBx, okC, outA, outL, outU, outB, deep, deepL, boxIds, AV.bid, List.map_nil, List.map_cons, List.all_nil, List.all_cons, BEq.rfl, Bool.and_true, Bool.true_and, List.append_nil, aops_nil, aops_plain, aops_guard, kont_at, yes_at, no_at, aop_move, aop_assign, aop_pick, aop_alloc, aop_box, aop_build, aop_buildSlice, aop_load, aop_store, aop_nilCheck, aop_binOp, aop_unOp, aop_convert, aop_fieldAddr, aop_indexAddr, aop_slice, aop_extract, aop_makeSlice, aop_len, aop_max, aMax_int, slTy2, SC0, aop_append, aop_call, evalE, getE, putE, getB, setB, St.put, setsB, nth, AV.ofV, AV.blk, AV.bid, AV.one, SC.len, SC.get, List.length_nil, List.length_cons, Nat.reduceEqDiff, Nat.reduceAdd, ↓reduceIte, true_and, and_true, Bool.true_eq_false, Bool.false_eq_true, false_imp_iff, true_imp_iff, decide_eq_true_eq, Bool.not_eq_true', Bool.not_eq_false', decide_eq_false_iff_not, Option.isSome, List.nil_append, List.cons_append, aGuardO_some, aGuard_tt, aGuard_tf, aGuard_ft, aGuard_ff, aGuard_tb, aGuard_fb, aGuard_ts, aGuard_fs, aPick_b, aPick_t, aPick_f, aAlloc_one, aAlloc_flat, aBox_some, aBuild_flat, aInt_add, aBin_add, aInt_sub, aBin_sub, aInt_mul, aBin_mul, aInt_quo, aBin_quo, aInt_rem, aBin_rem, aInt_and, aBin_and, aInt_or, aBin_or, aInt_xor, aBin_xor, aInt_andNot, aBin_andNot, aInt_eql, aBin_eql, aInt_neq, aBin_neq, aInt_lss, aBin_lss, aInt_leq, aBin_leq, aInt_gtr, aBin_gtr, aInt_geq, aBin_geq, aBin_shl, aBin_shr, aShift_shl, aShift_shr, aBin_be1, aBin_bn1, aBin_be2, aBin_bn2, aBin_be3, aBin_bn3, aBin_be4, aBin_bn4, aBin_be5, aBin_bn5, aBin_be6, aBin_bn6, aBin_be7, aBin_bn7, aBin_be8, aBin_bn8, aBin_be9, aBin_bn9, aUn_b, aUn_t, aUn_f, aUn_i, aNil_ptr, aNil_pv, aConv_int, aField_ptr, aField_pv, aIdx_sl, aIdx_prm, aIdx_row, aIdx_drow, aMake_i, aMake_s, aExtr_tup, aLen_ref, aLen_nil, aLen_sl, aLen_prm, aLen_str, aBuildL_some, aBuildS_some, aLoad_1b, aLoad_1d, aLoad_fb, aLoad_fd, aLoad_1p, aLoad_fp, aLoad_ep, aLoad_rr, aLoad_rd, aStore_1, aStore_f, aStore_r, aApp_some, aAppend_nil, aAppend_ref, aSlice_h, aSlice_l, aSlice_lh, aop_slice3, aSlice3_r, aop_field, aFld_agg, aBinW_f, aBinW_t, aWrap_mul, aWrap_add, isW_tmp, isW_mulc, isW_addc, isW_sub, isW_quo, isW_rem, isW_and, isW_or, isW_xor, isW_andNot, isW_shl, isW_shr, isW_eql, isW_neq, isW_lss, isW_leq, isW_gtr, isW_geq, Int.reduceLT, aBinW_dF, aBinW_dT, bc_draw, kregD_at, aopsD_nil, aopsD_plain, aopsD_guard, kontD_at, contD_at, yesD_at, noD_at, splD_bool, splD_undef, splD_skip, splD_int, splD_tt, splD_ff, splD_str, splD_nil, splD_sl, splD_prm, splD_ref, splD_ptr, splD_rp, splD_ep, splD_pv, splD_agg, splD_tup, splD_clo, gD_tt, gD_tf, gD_ft, gD_ff, gD_ts, gD_fs, slotO_some, addTr_nil, addTr_cons, memQ_nil, memQ_cons, clash_nil, clash_cons, regC_none, regC_nil, regC_cons, regR_nil, regR_cons, Int.toNat_zero, Int.toNat_one, rng0, rng1, rng2, rng3, rng4, SC.take, SC.drop, mp_nil, acond_ct, acond_cf, mp_one0, mp_one1, mp_one2, mp_one3, kcall_one, liveB_row, liveB_box, idx, cont, still, dies, lend, lendA, lendDies, snocs, SC.snoc, SC.app, meet, AV.cells, fillA, List.getD_cons_zero, List.getD_cons_succ, List.set_cons_zero, List.set_cons_succ, List.length_singleton, Nat.le_refl, Nat.lt_irrefl, Nat.reduceLT, Nat.reduceLeDiff, Option.map_some, Option.map_none, List.flatMap_nil, List.flatMap_cons, Nat.zero_add, BEq.rfl, kcall_two, mp_two0, mp_two1, mp_two2, mp_two3, mp_two4, aop_makeFunc, plainA, Bool.true_and, sl3, ty3, un3, sl49, ty49, un49, sl71, ty71, un71, sl69, ty69, un69, sl5, ty5, un5, sl2, ty2, un2, sl21, ty21, un21, sl4, ty4, un4, sl9, un9, sl22, ty22, un22, sl31, ty31, un31, sl36, sl53, ty38, sl38, ty41, sl41, inR64, inRu64, inRu32, gs_spec_l27Fits_62, at_spec_l27Ends, lend_spec_l27Ends, Try.f54]
  simp only [lensA, lenA, lenSC] at hl
  have hp := perm_in (n := order.length) (by omega) hp1.2
  refine bc_loop (fun i : Nat => i ≤ xs.length ∧ ∀ k, k < i → fitAt xs order k = true)
    (fun i => ⟨[(0, .prm 0 (.ints .i64 xs)), (1, .prm 1 (.ints .i64 order)), (5, .int .i64 i)], []⟩) (fun i => xs.length - i)
    [0, 1, 5] [] 0 rfl rfl (by simp) fun i ⟨h1, h2⟩ => ?_
  simp only [kcode_at, kreg_at, bc_skip, bc_seq, bc_cond, bc_block, bc_exit, bc_ret, bc_region, lkX_cons, acond_tmp, aCase_t, aCase_f, aCase_b, afin_nil, cvE_some, resL, resV, resC, cv, cvL, pack, entryE, inPrm, Option.getD_some, acall_clo, add_sp, add_lend, kcall_nil, selOf, selC, selA, inArgs, inA, inL, okA, okL, okBx, okC, outA, outL, outU, outB, deep, deepL, boxIds, AV.bid, List.map_nil, List.map_cons, List.all_nil, List.all_cons, BEq.rfl, Bool.and_true, Bool.true_and, List.append_nil, aops_nil, aops_plain, aops_guard, kont_at, yes_at, no_at, aop_move, aop_assign, aop_pick, aop_alloc, aop_box, aop_build, aop_buildSlice, aop_load, aop_store, aop_nilCheck, aop_binOp, aop_unOp, aop_convert, aop_fieldAddr, aop_indexAddr, aop_slice, aop_extract, aop_makeSlice, aop_len, aop_max, aMax_int, slTy2, SC0, aop_append, aop_call, evalE, getE, putE, getB, setB, St.put, setsB, nth, AV.ofV, AV.blk, AV.bid, AV.one, SC.len, SC.get, List.length_nil, List.length_cons, Nat.reduceEqDiff, Nat.reduceAdd, ↓reduceIte, true_and, and_true, Bool.true_eq_false, Bool.false_eq_true, false_imp_iff, true_imp_iff, decide_eq_true_eq, Bool.not_eq_true', Bool.not_eq_false', decide_eq_false_iff_not, Option.isSome, List.nil_append, List.cons_append, aGuardO_some, aGuard_tt, aGuard_tf, aGuard_ft, aGuard_ff, aGuard_tb, aGuard_fb, aGuard_ts, aGuard_fs, aPick_b, aPick_t, aPick_f, aAlloc_one, aAlloc_flat, aBox_some, aBuild_flat, aInt_add, aBin_add, aInt_sub, aBin_sub, aInt_mul, aBin_mul, aInt_quo, aBin_quo, aInt_rem, aBin_rem, aInt_and, aBin_and, aInt_or, aBin_or, aInt_xor, aBin_xor, aInt_andNot, aBin_andNot, aInt_eql, aBin_eql, aInt_neq, aBin_neq, aInt_lss, aBin_lss, aInt_leq, aBin_leq, aInt_gtr, aBin_gtr, aInt_geq, aBin_geq, aBin_shl, aBin_shr, aShift_shl, aShift_shr, aBin_be1, aBin_bn1, aBin_be2, aBin_bn2, aBin_be3, aBin_bn3, aBin_be4, aBin_bn4, aBin_be5, aBin_bn5, aBin_be6, aBin_bn6, aBin_be7, aBin_bn7, aBin_be8, aBin_bn8, aBin_be9, aBin_bn9, aUn_b, aUn_t, aUn_f, aUn_i, aNil_ptr, aNil_pv, aConv_int, aField_ptr, aField_pv, aIdx_sl, aIdx_prm, aIdx_row, aIdx_drow, aMake_i, aMake_s, aExtr_tup, aLen_ref, aLen_nil, aLen_sl, aLen_prm, aLen_str, aBuildL_some, aBuildS_some, aLoad_1b, aLoad_1d, aLoad_fb, aLoad_fd, aLoad_1p, aLoad_fp, aLoad_ep, aLoad_rr, aLoad_rd, aStore_1, aStore_f, aStore_r, aApp_some, aAppend_nil, aAppend_ref, aSlice_h, aSlice_l, aSlice_lh, aop_slice3, aSlice3_r, aop_field, aFld_agg, aBinW_f, aBinW_t, aWrap_mul, aWrap_add, isW_tmp, isW_mulc, isW_addc, isW_sub, isW_quo, isW_rem, isW_and, isW_or, isW_xor, isW_andNot, isW_shl, isW_shr, isW_eql, isW_neq, isW_lss, isW_leq, isW_gtr, isW_geq, Int.reduceLT, aBinW_dF, aBinW_dT, bc_draw, kregD_at, aopsD_nil, aopsD_plain, aopsD_guard, kontD_at, contD_at, yesD_at, noD_at, splD_bool, splD_undef, splD_skip, splD_int, splD_tt, splD_ff, splD_str, splD_nil, splD_sl, splD_prm, splD_ref, splD_ptr, splD_rp, splD_ep, splD_pv, splD_agg, splD_tup, splD_clo, gD_tt, gD_tf, gD_ft, gD_ff, gD_ts, gD_fs, slotO_some, addTr_nil, addTr_cons, memQ_nil, memQ_cons, clash_nil, clash_cons, regC_none, regC_nil, regC_cons, regR_nil, regR_cons, Int.toNat_zero, Int.toNat_one, rng0, rng1, rng2, rng3, rng4, SC.take, SC.drop, mp_nil, acond_ct, acond_cf, mp_one0, mp_one1, mp_one2, mp_one3, kcall_one, liveB_row, liveB_box, idx, cont, still, dies, lend, lendA, lendDies, snocs, SC.snoc, SC.app, meet, AV.cells, fillA, List.getD_cons_zero, List.getD_cons_succ, List.set_cons_zero, List.set_cons_succ, List.length_singleton, Nat.le_refl, Nat.lt_irrefl, Nat.reduceLT, Nat.reduceLeDiff, Option.map_some, Option.map_none, List.flatMap_nil, List.flatMap_cons, Nat.zero_add, BEq.rfl, kcall_two, mp_two0, mp_two1, mp_two2, mp_two3, mp_two4, aop_makeFunc, plainA, Bool.true_and, sl3, ty3, un3, sl49, ty49, un49, sl71, ty71, un71, sl69, ty69, un69, sl5, ty5, un5, sl2, ty2, un2, sl21, ty21, un21, sl4, ty4, un4, sl9, un9, sl22, ty22, un22, sl31, ty31, un31, sl36, sl53, ty38, sl38, ty41, sl41, inR64, inRu64, inRu32, gs_spec_l27Fits_62, at_spec_l27Ends, lend_spec_l27Ends, Int.toNat_natCast]
  refine ⟨fun hi => ?_, fun hi => ?_⟩
  · have hx := hp2 i (by omega)
    have hf : ¬ xs.getD i 0 = 0 → decide (0 ≤ firstF order (xs.getD i 0) order.length) = true := fun h0 => decide_eq_true (fit_first (n := order.length) (by omega) hp1.2 (by omega) h0)
    refine ⟨by omega, hp1.1, hp.2.2.2, by omega, fun hw => ⟨by omega, fun h0 => ?_, fun h0 => ⟨by omega, ?_⟩⟩, fun hw => ⟨by omega, ?_⟩⟩
    · rw [hf h0, Bool.true_and] at hw
      rw [fitB, allN_f i (by omega) (by rw [fitAt, hw, decide_eq_false h0]; rfl)]
    · exact klp_of (i + 1) rfl ⟨by omega, upto_succ h2 (by rw [fitAt, decide_eq_true h0]; rfl)⟩ (by omega)
    · rw [Bool.and_eq_true] at hw
      exact klp_of (i + 1) rfl ⟨by omega, upto_succ h2 (by rw [fitAt, hw.2]; simp)⟩ (by omega)
  · have : i = xs.length := by omega
    subst this
    rw [fitB, allN_t h2]
def lend_spec_l27Fits : List Nat := []
def sp_spec_l27Fits : List AV → List Bx → (AV → List Bx → Prop) → Prop
  | [.sl none (.ints .i64 xs), .sl none (.ints .i64 order)], [], K => (order.length ≤ 6 ∧ permB order.length order = true) ∧ (∀ i, i < xs.length → 0 ≤ xs.getD i 0 ∧ xs.getD i 0 ≤ 63 ∧ xs.getD i 0 ≤ fullI order.length) ∧ K (.bool (fitB xs order)) []
  | _, _, _ => False
theorem at_spec_l27Fits {xs order : List Int} {K : AV → List Bx → Prop} : sp_spec_l27Fits [.sl none (.ints .i64 xs), .sl none (.ints .i64 order)] [] K = ((order.length ≤ 6 ∧ permB order.length order = true) ∧ (∀ i, i < xs.length → 0 ≤ xs.getD i 0 ∧ xs.getD i 0 ≤ 63 ∧ xs.getD i 0 ≤ fullI order.length) ∧ K (.bool (fitB xs order)) []) := id rfl
theorem ok_spec_l27Fits : ∀ args giv K, sp_spec_l27Fits args giv K → ∃ r outs, ARuns Try.prog 54 args giv r outs ∧ K r outs := by
  intro args giv K hk
  unfold sp_spec_l27Fits at hk
  split at hk
  · obtain ⟨hp1, hp2, hk⟩ := hk; exact ⟨_, _, runs_spec_l27Fits _ _ hp1 hp2, hk⟩
  · exact hk.elim
end Go.Proofs.Ytdpodfdjdophgaa
