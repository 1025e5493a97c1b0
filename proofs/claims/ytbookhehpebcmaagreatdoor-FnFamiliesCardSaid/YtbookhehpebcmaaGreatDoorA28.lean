/-
  An abstract machine over the kit's Code.wp, and its soundness: part 28, more equations for simp to reckon with.
-/
import Derived.Test.YtbookhehpebcmaaGreatDoorA27
namespace Go.Proofs.YtbookhehpebcmaaGreatDoor
namespace AM
set_option linter.unusedVariables false
set_option linter.unusedSimpArgs false

theorem mp_nil {c i : Nat} : mp [] c i = c + i := by simp [mp]
theorem mp_one0 {b c : Nat} : mp [b] c 0 = b := by simp [mp]
theorem mp_oneS {b c i : Nat} : mp [b] c (i + 1) = c + i := by simp [mp]
theorem mp_one1 {b c : Nat} : mp [b] c 1 = c := by simp [mp]
theorem mp_one2 {b c : Nat} : mp [b] c 2 = c + 1 := by simp [mp]
theorem mp_one3 {b c : Nat} : mp [b] c 3 = c + 2 := by simp [mp]

theorem rng0 : List.range 0 = [] := rfl
theorem rng1 : List.range 1 = [0] := rfl
theorem rng2 : List.range 2 = [0, 1] := rfl
theorem rng3 : List.range 3 = [0, 1, 2] := rfl
theorem rng4 : List.range 4 = [0, 1, 2, 3] := rfl

def liveB : Bx → Bool
  | .box _ | .row _ _ | .grid _ _ _ => true
  | _ => false
theorem liveB_row {e : TypeId} {c : SC} : liveB (.row e c) = true := id rfl
theorem liveB_grid {e t : TypeId} {xss : List (List Int)} : liveB (.grid e t xss) = true := id rfl
theorem liveB_box {cs : List AV} : liveB (.box cs) = true := id rfl

/-- One block lent. -/
theorem kcall_one {c : Nat} {bx : Nat → Bx} {avs caps : List AV} {cs : List SC} {K : Kt} {b : Nat} {r : AV} {outs : List Bx} : kcall c bx avs caps cs K [b] r outs =
    ((liveB (bx b) = true ∧ 1 ≤ outs.length ∧ okA r = true ∧ outs.all okBx = true ∧ ((lendDies bx (bx b)).all fun p => !(p.1 == b)) = true ∧ (cs.all fun c => c.len == 0) = true ∧ b < c) ∧
    K (outA [b] c (avs ++ (caps ++ bxCells (bx b))) r) (lendDies bx (bx b) ++ outU [b] c (avs ++ (caps ++ bxCells (bx b))) 0 outs) (b :: (deepL (avs ++ caps) ++ boxIds (bx b) ++ (outU [b] c (avs ++ (caps ++ bxCells (bx b))) 0 outs).map (·.1)))) := by
  rw [kcall_cons]
  cases h : bx b <;> simp [liveB, h]

theorem mp_two0 {a b c : Nat} : mp [a, b] c 0 = a := by simp [mp]
theorem mp_two1 {a b c : Nat} : mp [a, b] c 1 = b := by simp [mp]
theorem mp_two2 {a b c : Nat} : mp [a, b] c 2 = c := by simp [mp]
theorem mp_two3 {a b c : Nat} : mp [a, b] c 3 = c + 1 := by simp [mp]
theorem mp_two4 {a b c : Nat} : mp [a, b] c 4 = c + 2 := by simp [mp]
/-- Two blocks lent. -/
theorem kcall_two {c : Nat} {bx : Nat → Bx} {avs caps : List AV} {cs : List SC} {K : Kt} {a b : Nat} {r : AV} {outs : List Bx} : kcall c bx avs caps cs K [a, b] r outs =
    (((a == b) = false ∧ liveB (bx a) = true ∧ liveB (bx b) = true ∧ 2 ≤ outs.length ∧ okA r = true ∧ outs.all okBx = true ∧ ((lendDies bx (bx a)).all fun p => !(p.1 == a || p.1 == b)) = true ∧ ((lendDies bx (bx b)).all fun p => !(p.1 == a || p.1 == b)) = true ∧ (cs.all fun c => c.len == 0) = true ∧ a < c ∧ b < c) ∧
    K (outA [a, b] c (avs ++ (caps ++ (bxCells (bx a) ++ bxCells (bx b)))) r) (lendDies bx (bx a) ++ lendDies bx (bx b) ++ outU [a, b] c (avs ++ (caps ++ (bxCells (bx a) ++ bxCells (bx b)))) 0 outs) (a :: b :: (deepL (avs ++ caps) ++ boxIds (bx a) ++ boxIds (bx b) ++ (outU [a, b] c (avs ++ (caps ++ (bxCells (bx a) ++ bxCells (bx b)))) 0 outs).map (·.1)))) := by
  rw [kcall_cons]
  cases h : bx a <;> cases h' : bx b <;> simp [liveB, h, h', and_assoc]

def SFam (x : AV) : Prop := ∃ (n : Int) (xs : List Int), (-9223372036854775808 ≤ n ∧ n ≤ 9223372036854775807) ∧ (∀ n ∈ xs, -9223372036854775808 ≤ n ∧ n ≤ 9223372036854775807) ∧ xs.length ≤ 9223372036854775807 ∧ x = .agg [.int .i64 n, .sl none (.ints .i64 xs)]
open Go.ChangeShapes Go.WideShapes Go.ChangeAt Go.RowKit in
theorem opens_family {P : Program} {t e : TypeId} {f0 f1 : Field} (ht : P.underlying t = some (.struct #[f0, f1])) (hi : P.underlying f0.type = some (.int .i64)) (hs : P.underlying f1.type = some (.slice e)) (he : P.underlying e = some (.int .i64)) (hc : P.cellsOf e = 1)
    (h2 : P.cellsOf t = 2) (c0 : P.cellsOf f0.type = 1) (c1 : P.cellsOf f1.type = 1) (o0 : f0.offset = 0) (o1 : f1.offset = 1) : Opens P t SFam := by
  intro H enc W base v d p hv ⟨fuel, hd⟩
  obtain ⟨cs, rfl, hsz⟩ := okWide_struct ht hv
  obtain ⟨y0, y1, n, _, hl, t0, t1⟩ := trod_struct2 ht hd
  rw [h2] at hsz
  obtain ⟨a, b, rfl⟩ : ∃ a b, cs = #[a, b] := by
    rcases cs with ⟨l⟩
    match l, hsz with
    | [a, b], _ => exact ⟨a, b, rfl⟩
  simp only [Value.cells, o0, c0, o1, c1, List.drop_zero, List.take_succ_cons, List.take_zero, List.drop_succ_cons] at t0 t1
  obtain ⟨k, hk, _, hw⟩ := DataW.trod_int hi t0
  cases hk
  obtain ⟨y, ⟨xs, h3, h4, rfl⟩, hr⟩ := ints_rel hs he hc t1
  refine ⟨_, ⟨k, xs, bounds_i64 hw, h3, h4, rfl⟩, fun g => ?_⟩
  have := hr g
  simp only [Rel] at this ⊢
  exact ⟨[.int .i64 k, b], rfl, by simp only [RelL]; exact ⟨_, _, rfl, by simp only [Rel], _, _, rfl, this, rfl⟩⟩

def famTy (P : Program) (t ti ts : TypeId) : Bool :=
  match P.underlying t with
  | some (.struct fs) => match fs.toList with
    | [f0, f1] => f0.type == ti && f1.type == ts && f0.offset == 0 && f1.offset == 1 && P.cellsOf t == 2 && P.cellsOf ti == 1 && P.cellsOf ts == 1
    | _ => false
  | _ => false
theorem opens_fam {P : Program} {t ti ts e : TypeId} (h : famTy P t ti ts = true) (hi : P.underlying ti = some (.int .i64)) (hs : P.underlying ts = some (.slice e)) (he : P.underlying e = some (.int .i64)) (hc : P.cellsOf e = 1) : Opens P t SFam := by
  unfold famTy at h
  split at h
  · rename_i fs hu
    split at h
    · rename_i f0 f1 hf
      simp only [Bool.and_eq_true, beq_iff_eq] at h
      have hfs : fs = #[f0, f1] := by cases fs; simp_all
      subst hfs
      obtain ⟨⟨⟨⟨⟨⟨h1, h2⟩, h3⟩, h4⟩, h5⟩, h6⟩, h7⟩ := h
      exact opens_family hu (h1 ▸ hi) (h2 ▸ hs) he hc h5 (h1 ▸ h6) (h2 ▸ h7) h3 h4
    · cases h
  · cases h

def SBytes (x : AV) : Prop := ∃ xs : List Int, (∀ n ∈ xs, 0 ≤ n ∧ n ≤ 255) ∧ xs.length ≤ 9223372036854775807 ∧ x = .sl none (.ints .u8 xs)
open Go.ChangeShapes Go.WideShapes Go.ChangeAt Go.RowKit in
theorem opens_bytes {P : Program} {t e : TypeId} (ht : P.underlying t = some (.slice e)) (he : P.underlying e = some (.int .u8)) (hc : P.cellsOf e = 1) : Opens P t SBytes := by
  intro H enc W base v d p hv ⟨fuel, hd⟩
  obtain ⟨a, len, cap, rfl⟩ := okWide_slice ht hv
  rcases open_ints ht he hc hd with ⟨hcs, _⟩ | ⟨a, len, cap, zs, hcs, _, hl, hm, hz, _, hcell, hw⟩
  · cases hcs
    exact ⟨.sl none (.ints .u8 []), ⟨[], by simp, by simp, rfl⟩, fun g => by simp only [Rel, Vw]; exact ⟨⟨none, 0, rfl, by simp [SC.len], by simp, by simp [SC.len]⟩, trivial⟩⟩
  · cases hcs
    simp only [if_true] at hz
    have hmx : maxLen ≤ 9223372036854775807 := by decide
    have hlen : (zs.take len).length = len := by rw [List.length_take]; omega
    refine ⟨.sl none (.ints .u8 (zs.take len)), ⟨zs.take len, fun n hn => bounds_u8 (hw n (List.mem_of_mem_take hn)), Nat.le_trans (by omega) hmx, rfl⟩, fun g => ?_⟩
    simp only [Rel, Vw, SC.len, hlen]
    refine ⟨⟨some a, cap, rfl, hl, hm, fun i hi => ?_⟩, trivial⟩
    obtain ⟨b, off, rfl, hca⟩ := ints_at (w := W) (a := a) (k := .u8) (zs := zs) hcell (by omega)
    refine ⟨.int .u8 (zs.getD i 0), ⟨⟨b, off, none⟩, rfl, rfl, fun h => h, ?_⟩, ?_⟩
    · have := hcell i (by omega)
      by_cases h0 : i = 0
      · subst h0; simpa [Addr.add] using this
      · simpa [Addr.add, h0] using this
    · simp only [ElR]
      rw [List.getD_eq_getElem?_getD, List.getD_eq_getElem?_getD, List.getElem?_take, if_pos hi]

theorem satL_cons {S : AV → Prop} {Ss : List (AV → Prop)} : ∀ {xs : List AV}, SatL (S :: Ss) xs → ∃ x r, xs = x :: r ∧ S x ∧ SatL Ss r
  | x :: r, h => ⟨x, r, rfl, h.1, h.2⟩
  | [], h => h.elim
theorem satL_nil : ∀ {xs : List AV}, SatL [] xs → xs = []
  | [], _ => rfl
  | _ :: _, h => h.elim

end AM
end Go.Proofs.YtbookhehpebcmaaGreatDoor
