/-
  An abstract machine over the kit's Code.wp, and its soundness: part 22, what one operation looks at.
-/
import Derived.Test.YtbookhehpebcmaaGreatDoorA19
namespace Go.Proofs.YtbookhehpebcmaaGreatDoor
namespace AM
set_option linter.unusedVariables false
set_option linter.unusedSimpArgs false

/-- The table that says of every function what is true of it. -/
def Gx (P : Program) (lend : FuncId → List Nat) : Gm := ⟨lend, fun f args giv K => ∃ r outs, ARuns P f args giv r outs ∧ K r outs⟩

theorem acall_Gx {P : Program} {Γ : Gm} (hΓ : Γ.ok P) {c : Nat} {bx : Nat → Bx} {f : AV} {avs : List AV} {cs : List SC} {K : Kt} (h : acall Γ c bx f avs cs K) : acall (Gx P Γ.lend) c bx f avs cs K := by
  cases f
  case clo g caps => exact hΓ _ _ _ _ h
  all_goals exact h.elim

theorem aop_Gx {P : Program} {Γ : Gm} (hΓ : Γ.ok P) {c : Nat} {ev : Operand → AV} {bx : Nat → Bx} {op : Op} {K : Kt} (h : aop P Γ c ev bx op K) : aop P (Gx P Γ.lend) c ev bx op K := by
  cases op
  case call c' =>
    obtain ⟨callee, args, ts⟩ := c'
    cases callee
    case value f => exact acall_Gx hΓ h
    case builtin b => cases b <;> exact h
    all_goals exact h
  case slice t x lo hi mx => cases mx <;> exact h
  all_goals exact h

/-- Local: a result, the blocks that turn are among those that were looked at, and whatever agrees on these gives the same result. -/
def Loc (R : (Nat → Bx) → Kt → Prop) (bx : Nat → Bx) (K : Kt) : Prop :=
  ∃ v u ac, K v u ac ∧ (∀ p ∈ u, p.1 ∈ ac) ∧ ∀ bx', (∀ b ∈ ac, bx' b = bx b) → ∀ K' : Kt, K' v u ac → R bx' K'

theorem Loc.val {R : (Nat → Bx) → Kt → Prop} {bx : Nat → Bx} {K : Kt} {v : AV} (h : K v [] []) (hr : ∀ bx' (K' : Kt), K' v [] [] → R bx' K') : Loc R bx K :=
  ⟨v, [], [], h, by simp, fun bx' _ K' hk => hr bx' K' hk⟩

theorem aInt_loc {op : BinOp} {k : IntKind} {x y : Int} {bx : Nat → Bx} {K : Kt} (h : aInt op k x y K) : Loc (fun _ K => aInt op k x y K) bx K := by
  cases op <;> simp only [aInt] at h ⊢
  all_goals first
    | exact h.elim
    | exact .val h.2 fun _ K' hk => ⟨h.1, hk⟩
    | exact .val h fun _ K' hk => hk

theorem aShift_loc {op : BinOp} {k : IntKind} {x y : Int} {bx : Nat → Bx} {K : Kt} (h : aShift op k x y K) : Loc (fun _ K => aShift op k x y K) bx K := by
  cases op <;> simp only [aShift] at h ⊢
  all_goals first
    | exact h.elim
    | exact .val h.2 fun _ K' hk => ⟨h.1, hk⟩

theorem aBool_loc {op : BinOp} {x y p q : AV} {bx : Nat → Bx} {K : Kt} (h : aBool op x y p q K) : Loc (fun _ K => aBool op x y p q K) bx K := by
  cases op <;> simp only [aBool] at h ⊢
  all_goals first
    | exact h.elim
    | exact .val h fun _ K' hk => hk

theorem aUn_loc {op : UnOp} {x : AV} {bx : Nat → Bx} {K : Kt} (h : aUn op x K) : Loc (fun _ K => aUn op x K) bx K := by
  cases x <;> cases op <;> simp only [aUn] at h ⊢
  all_goals first
    | exact h.elim
    | exact .val h.2 fun _ K' hk => ⟨h.1, hk⟩
    | exact .val h fun _ K' hk => hk

theorem aStr_loc {op : BinOp} {x y : ByteArray} {bx : Nat → Bx} {K : Kt} (h : aStr op x y K) : Loc (fun _ K => aStr op x y K) bx K := by
  cases op <;> simp only [aStr] at h ⊢
  all_goals first
    | exact h.elim
    | exact .val h.2 fun _ K' hk => ⟨h.1, hk⟩
    | exact .val h fun _ K' hk => hk

theorem aIndex_loc {t : Option TypeDesc} {x i : AV} {bx : Nat → Bx} {K : Kt} (h : aIndex t x i K) : Loc (fun _ K => aIndex t x i K) bx K := by
  unfold aIndex at h ⊢
  split at h
  · exact .val h.2 fun _ K' hk => ⟨h.1, hk⟩
  · exact h.elim

theorem aBin_loc {op : BinOp} {t : Option TypeDesc} {x y : AV} {bx : Nat → Bx} {K : Kt} (h : aBin op t x y K) : Loc (fun _ K => aBin op t x y K) bx K := by
  unfold aBin at h ⊢
  split at h
  · split at h
    · exact aShift_loc h
    · exact aShift_loc h
    · obtain ⟨v, u, ac, h1, h2, h3⟩ := aInt_loc (bx := bx) h.2
      exact ⟨v, u, ac, h1, h2, fun bx' hb K' hk => ⟨h.1, h3 bx' hb K' hk⟩⟩
  all_goals first
    | exact aBool_loc h
    | exact aStr_loc h
    | exact h.elim

theorem aBinW_loc {b : Bool} {op : BinOp} {t : Option TypeDesc} {x y : AV} {bx : Nat → Bx} {K : Kt} (h : aBinW b op t x y K) : Loc (fun _ K => aBinW b op t x y K) bx K := by
  cases b with
  | false => exact aBin_loc h
  | true =>
    show Loc (fun _ K => aWrap op x y K) bx K
    have h : aWrap op x y K := h
    unfold aWrap at h ⊢
    split at h
    · exact .val h.2 fun _ K' hk => ⟨h.1, hk⟩
    · exact .val h.2 fun _ K' hk => ⟨h.1, hk⟩
    · exact h.elim

theorem aPick_loc {g x y : AV} {bx : Nat → Bx} {K : Kt} (h : aPick g x y K) : Loc (fun _ K => aPick g x y K) bx K := by
  cases g <;> simp only [aPick] at h ⊢
  all_goals first
    | exact h.elim
    | exact .val h fun _ K' hk => hk
    | skip
  rename_i b
  cases b
  · exact .val (h.2 rfl) fun _ K' hk => ⟨fun e => absurd e (by simp), fun _ => hk⟩
  · exact .val (h.1 rfl) fun _ K' hk => ⟨fun _ => hk, fun e => absurd e (by simp)⟩

theorem Loc.at {R : (Nat → Bx) → Kt → Prop} {bx : Nat → Bx} {K : Kt} {v : AV} {u : List (Nat × Bx)} {ac : List Nat} (h : K v u ac) (hu : ∀ p ∈ u, p.1 ∈ ac) (hr : ∀ bx', (∀ b ∈ ac, bx' b = bx b) → ∀ K' : Kt, K' v u ac → R bx' K') : Loc R bx K :=
  ⟨v, u, ac, h, hu, hr⟩

theorem aLoad_loc {t : Ty} {x : AV} {bx : Nat → Bx} {K : Kt} (h : aLoad t x (bx x.blk) K) : Loc (fun bx K => aLoad t x (bx x.blk) K) bx K := by
  unfold aLoad at h
  split at h
  all_goals first
    | exact h.elim
    | exact .at h.2 (by simp) fun bx' hb K' hk => by
        simp only [AV.blk] at *
        first
          | (simp only [aLoad]; exact ⟨h.1, hk⟩)
          | (rename_i hx; have := hb _ List.mem_cons_self; rw [this, hx]; exact ⟨h.1, hk⟩)
    | exact .at h (by simp) fun bx' hb K' hk => by simp only [aLoad]; exact hk

theorem aStore_loc {t : Ty} {x y : AV} {bx : Nat → Bx} {K : Kt} (h : aStore t x (bx x.blk) y K) : Loc (fun bx K => aStore t x (bx x.blk) y K) bx K := by
  unfold aStore at h
  split at h
  all_goals first
    | exact h.elim
    | exact .at h.2 (by simp) fun bx' hb K' hk => by
        simp only [AV.blk] at *
        rename_i hx; have := hb _ List.mem_cons_self; rw [this, hx]; exact ⟨h.1, hk⟩

theorem aIdx_loc {st : Option (TypeId × SC)} {i x : AV} {bx : Nat → Bx} {K : Kt} (h : aIdx st i x (bx x.blk) K) : Loc (fun bx K => aIdx st i x (bx x.blk) K) bx K := by
  unfold aIdx at h
  split at h
  all_goals first
    | exact h.elim
    | exact .at h.2 (by simp) fun bx' hb K' hk => by
        simp only [AV.blk] at *
        first
          | (simp only [aIdx]; exact ⟨h.1, hk⟩)
          | (rename_i hx; have := hb _ List.mem_cons_self; rw [this, hx]; exact ⟨h.1, hk⟩)

theorem aNil_loc {x : AV} {bx : Nat → Bx} {K : Kt} (h : aNil x K) : Loc (fun _ K => aNil x K) bx K := by
  cases x <;> simp only [aNil] at h ⊢
  all_goals first
    | exact h.elim
    | exact .val h fun _ K' hk => hk

theorem aConv_loc {x : AV} {s t : Option TypeDesc} {bx : Nat → Bx} {K : Kt} (h : aConv x s t K) : Loc (fun _ K => aConv x s t K) bx K := by
  unfold aConv at h ⊢
  split at h
  · exact .val h.2 fun _ K' hk => ⟨h.1, hk⟩
  · exact h.elim

theorem aField_loc {f : Nat} {x : AV} {t : Ty} {bx : Nat → Bx} {K : Kt} (h : aField f x t K) : Loc (fun _ K => aField f x t K) bx K := by
  unfold aField at h ⊢
  split at h
  all_goals first
    | exact h.elim
    | exact .val h.2 fun _ K' hk => ⟨h.1, hk⟩

theorem aFld_loc {f : Nat} {T : Ty} {x : AV} {bx : Nat → Bx} {K : Kt} (h : aFld f T x K) : Loc (fun _ K => aFld f T x K) bx K := by
  unfold aFld at h ⊢
  split at h
  · exact .val h.2 fun _ K' hk => ⟨h.1, hk⟩
  · exact h.elim

theorem aExtr_loc {i : Nat} {x : AV} {bx : Nat → Bx} {K : Kt} (h : aExtr i x K) : Loc (fun _ K => aExtr i x K) bx K := by
  cases x <;> simp only [aExtr] at h ⊢
  all_goals first
    | exact h.elim
    | exact .val h.2 fun _ K' hk => ⟨h.1, hk⟩

theorem aLen_loc {t : Option TypeDesc} {x : AV} {bx : Nat → Bx} {K : Kt} (h : aLen t x K) : Loc (fun _ K => aLen t x K) bx K := by
  unfold aLen at h ⊢
  split at h
  all_goals first
    | exact h.elim
    | exact .val h fun _ K' hk => hk

theorem aMax_loc {x y : AV} {bx : Nat → Bx} {K : Kt} (h : aMax x y K) : Loc (fun _ K => aMax x y K) bx K := by
  unfold aMax at h ⊢
  split at h
  · exact .val h fun _ K' hk => hk
  · exact h.elim

theorem aMin_loc {x y : AV} {bx : Nat → Bx} {K : Kt} (h : aMin x y K) : Loc (fun _ K => aMin x y K) bx K := by
  unfold aMin at h ⊢
  split at h
  · exact .val h fun _ K' hk => hk
  · exact h.elim

theorem aAlloc_loc {c : Nat} {t : Ty} {bx : Nat → Bx} {K : Kt} (h : aAlloc c t K) : Loc (fun _ K => aAlloc c t K) bx K := by
  cases t <;> simp only [aAlloc] at h ⊢
  all_goals first
    | exact h.elim
    | exact .at h (by simp) fun _ _ K' hk => hk

theorem aBox_loc {c : Nat} {t : Option (List AV)} {bx : Nat → Bx} {K : Kt} (h : aBox c t K) : Loc (fun _ K => aBox c t K) bx K := by
  cases t <;> simp only [aBox] at h ⊢
  all_goals first
    | exact h.elim
    | exact .at h (by simp) fun _ _ K' hk => hk

theorem aBuild_loc {ps : List (Nat × AV)} {t : Ty} {bx : Nat → Bx} {K : Kt} (h : aBuild ps t K) : Loc (fun _ K => aBuild ps t K) bx K := by
  cases t <;> simp only [aBuild] at h ⊢
  all_goals first
    | exact h.elim
    | exact .val h.2 fun _ K' hk => ⟨h.1, hk⟩

theorem aMake_loc {c : Nat} {st : Option (TypeId × SC)} {l m : AV} {bx : Nat → Bx} {K : Kt} (h : aMake c st l m K) : Loc (fun _ K => aMake c st l m K) bx K := by
  unfold aMake at h ⊢
  split at h
  all_goals first
    | exact h.elim
    | exact .at h.2 (by simp) fun _ _ K' hk => ⟨h.1, hk⟩

theorem cont_loc {c0 : SC} {bx bx' : Nat → Bx} {x : AV} (hb : ∀ b ∈ x.bid, bx' b = bx b) : cont c0 bx' x = cont c0 bx x := by
  cases x <;> simp only [cont]
  rename_i b n; rw [hb b (by simp [AV.bid])]
theorem dies_loc {bx bx' : Nat → Bx} {x : AV} (hb : ∀ b ∈ x.bid, bx' b = bx b) : dies bx' x = dies bx x := by
  cases x <;> simp only [dies]
  rename_i b n; rw [hb b (by simp [AV.bid])]
theorem still_loc {bx bx' : Nat → Bx} {x : AV} (hb : ∀ b ∈ x.bid, bx' b = bx b) : still bx' x = still bx x := by
  cases x <;> simp only [still]
  rename_i b n; rw [hb b (by simp [AV.bid])]
theorem dies_in {bx : Nat → Bx} {x : AV} : ∀ p ∈ dies bx x, p.1 ∈ x.bid := by
  cases x <;> simp only [dies, AV.bid]
  case ref b n => cases bx b <;> simp
  all_goals simp

theorem aApp_loc {e e' : TypeId} {b n lx ld : Nat} {ac : List Nat} {x : Option SC} {bx : Nat → Bx} {K : Kt} (hb : b ∈ ac) (h : aApp e e' b n lx ld ac x K) :
    ∃ v u, K v u ac ∧ (∀ p ∈ u, p.1 ∈ ac) ∧ ∀ K' : Kt, K' v u ac → aApp e e' b n lx ld ac x K' := by
  cases x <;> simp only [aApp] at h ⊢
  all_goals first
    | exact h.elim
    | exact ⟨_, _, h.2, by simpa using hb, fun K' hk => ⟨h.1, hk⟩⟩

theorem aAppend_loc {c : Nat} {st : Option (TypeId × SC)} {x y : AV} {c0 : SC} {bx : Nat → Bx} {K : Kt} (h : aAppend c y.bid st x (bx x.blk) (cont c0 bx y) K) :
    Loc (fun bx K => aAppend c y.bid st x (bx x.blk) (cont c0 bx y) K) bx K := by
  unfold aAppend at h
  split at h
  · rename_i hx
    exact .at h.2 (by simp) fun bx' hb K' hk => by
      rw [cont_loc (bx := bx) fun b hb' => hb b (List.mem_cons_of_mem _ hb'), hx]
      simp only [aAppend]; exact ⟨h.1, hk⟩
  · rename_i hx hy
    obtain ⟨v, u, h1, h2, h3⟩ := aApp_loc (bx := bx) List.mem_cons_self h
    exact .at h1 h2 fun bx' hb K' hk => by
      rw [cont_loc (bx := bx) fun b hb' => hb b (List.mem_cons_of_mem _ hb'), hx]
      simp only [AV.blk] at hy ⊢
      rw [hb _ List.mem_cons_self, hy]
      simp only [aAppend]; exact h3 K' hk
  · exact h.elim

theorem aSlice_loc {ok : Bool} {x : AV} {c0 : SC} {lo hi mx : Option AV} {bx : Nat → Bx} {K : Kt} (h : aSlice ok (dies bx x) x.bid (cont c0 bx x) lo hi mx K) :
    Loc (fun bx K => aSlice ok (dies bx x) x.bid (cont c0 bx x) lo hi mx K) bx K := by
  generalize hc : cont c0 bx x = d at h
  unfold aSlice at h
  split at h
  all_goals first
    | exact h.elim
    | exact .at h.2 dies_in fun bx' hb K' hk => by
        rw [dies_loc hb, cont_loc hb, hc]
        simp only [aSlice]; exact ⟨h.1, hk⟩

theorem aCut_loc {t : Option TypeDesc} {x : AV} {lo hi : Option AV} {E : (Nat → Bx) → Kt → Prop} {bx : Nat → Bx} {K : Kt} (h : aCut x t lo hi K (E bx K)) (hE : E bx K → Loc E bx K) : Loc (fun bx K => aCut x t lo hi K (E bx K)) bx K := by
  unfold aCut at h ⊢
  split at h
  · exact .val h.2 fun _ K' hk => ⟨h.1, hk⟩
  · exact .val h.2 fun _ K' hk => ⟨h.1, hk⟩
  · exact .val h.2 fun _ K' hk => ⟨h.1, hk⟩
  · exact h.elim
  · exact hE h

theorem aConvS_loc {st : Option (TypeId × SC)} {x : AV} {c0 : SC} {us ud : Option TypeDesc} {bx : Nat → Bx} {K : Kt} (h : aConvS st x.bid (cont c0 bx x) x us ud K) :
    Loc (fun bx K => aConvS st x.bid (cont c0 bx x) x us ud K) bx K := by
  unfold aConvS at h ⊢
  split at h
  · generalize hc : cont c0 bx x = d at h
    unfold aToStr at h
    split at h
    · exact .at h (by simp) fun bx' hb K' hk => by
        rw [cont_loc hb, hc]
        exact hk
    · exact h.elim
  · exact aConv_loc h

theorem aSlice3_loc {c : Nat} {st : Option (TypeId × SC)} {x : AV} {lo hi mx : Option AV} {bx : Nat → Bx} {K : Kt} (h : aSlice3 c st x (bx x.blk) lo hi mx K) : Loc (fun bx K => aSlice3 c st x (bx x.blk) lo hi mx K) bx K := by
  generalize hB : bx x.blk = B at h
  unfold aSlice3 at h
  split at h
  case h_2 => exact h.elim
  split at h
  case h_2 => exact h.elim
  exact .at h.2 (by simp) fun bx' hb K' hk => by
    simp only [AV.blk] at hB ⊢
    rw [hb _ List.mem_cons_self, hB]
    simp only [aSlice3]; exact ⟨h.1, hk⟩

theorem aBuildL_loc {c : Nat} {n : Nat} {parts : List (Nat × AV)} {st : Option (TypeId × SC)} {bx : Nat → Bx} {K : Kt} (h : aBuildL c bx n parts st K) : Loc (fun bx K => aBuildL c bx n parts st K) bx K := by
  cases st with
  | none => exact h.elim
  | some p =>
    simp only [aBuildL] at h
    generalize hs : snocs p.2 (parts.map fun p => still bx p.2) = d at h
    cases d with
    | none => exact h.elim
    | some c1 =>
      simp only [aBuildS] at h
      refine .at h.2 ?_ fun bx' hb K' hk => ?_
      · intro q hq
        rw [List.mem_append] at hq
        rcases hq with hq | hq
        · obtain ⟨r, hr, hq⟩ := List.mem_flatMap.1 hq
          exact List.mem_cons_of_mem _ (List.mem_flatMap.2 ⟨r, hr, dies_in _ hq⟩)
        · simp at hq; rw [hq]; exact List.mem_cons_self
      · have hb' : ∀ r ∈ parts, ∀ b ∈ r.2.bid, bx' b = bx b := fun r hr b hb' => hb b (List.mem_cons_of_mem _ (List.mem_flatMap.2 ⟨r, hr, hb'⟩))
        have e1 : (parts.map fun p => still bx' p.2) = parts.map fun p => still bx p.2 := List.map_congr_left fun r hr => still_loc (hb' r hr)
        have e2 : (parts.flatMap fun p => dies bx' p.2) = parts.flatMap fun p => dies bx p.2 := by
          rw [List.flatMap_def, List.flatMap_def, List.map_congr_left fun r hr => dies_loc (hb' r hr)]
        simp only [aBuildL, e1, e2, hs, aBuildS]
        exact ⟨h.1, hk⟩

mutual
theorem inA_loc {sel : List Nat} {bx bx' : Nat → Bx} {c0 : SC} : ∀ {x : AV}, (∀ b ∈ deep x, bx' b = bx b) → inA sel bx' c0 x = inA sel bx c0 x
  | .ref b n, h => by
    simp only [inA]
    rw [cont_loc (bx := bx) (bx' := bx') (x := .ref b n) fun d hd => h d (by simpa [AV.bid, deep] using hd), h b (by simp [deep])]
  | .agg xs, h => by simp only [inA]; rw [inL_loc (xs := xs) fun b hb => h b (by simpa only [deep] using hb)]
  | .clo f caps, h => by simp only [inA]; rw [inL_loc (xs := caps) fun b hb => h b (by simpa only [deep] using hb)]
  | .ptr b off, h => by
    have hb := h b (by simp [deep])
    simp only [inA, hb]
  | .rp _ _ _, _ | .ep _, _ | .pv _ _, _ | .tup _, _ | .undef, _ | .skip, _ | .int _ _, _ | .bool _, _ | .tt, _ | .ff, _ | .str _, _ | .nil, _ | .sl _ _, _ | .prm _ _, _ => by simp only [inA]
theorem inL_loc {sel : List Nat} {bx bx' : Nat → Bx} : ∀ {xs : List AV}, (∀ b ∈ deepL xs, bx' b = bx b) → inL sel bx' xs = inL sel bx xs
  | [], _ => by simp only [inL]
  | x :: r, h => by
    simp only [inL]
    rw [inA_loc (x := x) fun b hb => h b (by simp only [deepL]; exact List.mem_append_left _ hb), inL_loc (xs := r) fun b hb => h b (by simp only [deepL]; exact List.mem_append_right _ hb)]
end

theorem inArgs_loc {sel : List Nat} {bx bx' : Nat → Bx} : ∀ {xs : List AV} {cs : List SC}, (∀ b ∈ deepL xs, bx' b = bx b) → inArgs sel bx' xs cs = inArgs sel bx xs cs
  | [], _, _ => by simp only [inArgs]
  | x :: r, [], h => by
    simp only [inArgs]
    rw [inA_loc (x := x) fun b hb => h b (by simp only [deepL]; exact List.mem_append_left _ hb), inArgs_loc (xs := r) fun b hb => h b (by simp only [deepL]; exact List.mem_append_right _ hb)]
  | x :: r, c0 :: cs, h => by
    simp only [inArgs]
    rw [inA_loc (x := x) fun b hb => h b (by simp only [deepL]; exact List.mem_append_left _ hb), inArgs_loc (xs := r) fun b hb => h b (by simp only [deepL]; exact List.mem_append_right _ hb)]

theorem deepL_append : ∀ (xs ys : List AV), deepL (xs ++ ys) = deepL xs ++ deepL ys
  | [], ys => by simp only [List.nil_append, deepL]
  | x :: r, ys => by simp only [List.cons_append, deepL, deepL_append r ys, List.append_assoc]

theorem lendA_loc {bx bx' : Nat → Bx} {x : AV} (h : ∀ b ∈ deep x, bx' b = bx b) : lendA bx' x = lendA bx x := by
  cases x <;> simp only [lendA]
  rename_i b n
  exact still_loc fun d hd => h d (by simpa [AV.bid, deep] using hd)

theorem mem_deepL {x : AV} {xs : List AV} (hx : x ∈ xs) {b : Nat} (hb : b ∈ deep x) : b ∈ deepL xs := by
  induction xs with
  | nil => cases hx
  | cons y r ih =>
    simp only [deepL, List.mem_append]
    rcases List.mem_cons.1 hx with rfl | hx
    · exact .inl hb
    · exact .inr (ih hx)

theorem lend_loc {bx bx' : Nat → Bx} {x : Bx} (h : ∀ b ∈ boxIds x, bx' b = bx b) : lend bx' x = lend bx x := by
  cases x <;> simp only [lend]
  rename_i cs
  rw [List.map_congr_left fun y hy => lendA_loc fun b hb => h b (mem_deepL hy hb)]

theorem lendDies_loc {bx bx' : Nat → Bx} {x : Bx} (h : ∀ b ∈ boxIds x, bx' b = bx b) : lendDies bx' x = lendDies bx x := by
  cases x <;> simp only [lendDies]
  rename_i cs
  rw [List.flatMap_def, List.flatMap_def, List.map_congr_left fun y hy => dies_loc fun b hb => h b (mem_deepL hy (by cases y <;> simp_all [AV.bid, deep]))]

theorem lendDies_in {bx : Nat → Bx} {x : Bx} : ∀ p ∈ lendDies bx x, p.1 ∈ boxIds x := by
  cases x <;> simp only [lendDies, boxIds]
  case box cs =>
    intro p hp
    obtain ⟨y, hy, hp⟩ := List.mem_flatMap.1 hp
    have := dies_in _ hp
    exact mem_deepL hy (by cases y <;> simp_all [AV.bid, deep])
  all_goals simp

theorem acall_loc {P : Program} {l : FuncId → List Nat} {c : Nat} {f : AV} {avs : List AV} {cs : List SC} {bx : Nat → Bx} {K : Kt} (h : acall (Gx P l) c bx f avs cs K) :
    Loc (fun bx K => acall (Gx P l) c bx f avs cs K) bx K := by
  cases f
  case clo g caps =>
    simp only [acall] at h
    generalize hsel : selOf (avs ++ caps) ((Gx P l).lend g) = sel at h
    obtain ⟨r, outs, hr, hside, hk⟩ := h
    refine .at hk ?_ fun bx' hb K' hk' => ?_
    · intro q hq
      simp only [List.mem_append] at hq ⊢
      rcases hq with hq | hq
      · obtain ⟨b, hb, hq⟩ := List.mem_flatMap.1 hq
        exact .inl (.inr (List.mem_flatMap.2 ⟨b, hb, lendDies_in _ hq⟩))
      · exact .inr (List.mem_map_of_mem hq)
    · have hs : ∀ b ∈ sel, bx' b = bx b := fun b h => hb b (by simp only [List.mem_append]; exact .inl (.inl (.inl h)))
      have hd : ∀ b ∈ deepL (avs ++ caps), bx' b = bx b := fun b h => hb b (by simp only [List.mem_append]; exact .inl (.inl (.inr h)))
      have hi : ∀ d ∈ sel, ∀ b ∈ boxIds (bx d), bx' b = bx b := fun d hd b h => hb b (by simp only [List.mem_append]; exact .inl (.inr (List.mem_flatMap.2 ⟨d, hd, h⟩)))
      have e1 : inArgs sel bx' avs cs = inArgs sel bx avs cs := inArgs_loc fun b h => hd b (by rw [deepL_append]; exact List.mem_append_left _ h)
      have e2 : inL sel bx' caps = inL sel bx caps := inL_loc fun b h => hd b (by rw [deepL_append]; exact List.mem_append_right _ h)
      have e3 : (sel.map fun b => lend bx' (bx' b)) = sel.map fun b => lend bx (bx b) := List.map_congr_left fun b h => by rw [hs b h]; exact lend_loc (hi b h)
      have e4 : ∀ b ∈ sel, lendDies bx' (bx' b) = lendDies bx (bx b) := fun b h => by rw [hs b h]; exact lendDies_loc (hi b h)
      have e5 : (sel.flatMap fun b => lendDies bx' (bx' b)) = sel.flatMap fun b => lendDies bx (bx b) := by rw [List.flatMap_def, List.flatMap_def, List.map_congr_left e4]
      have e6 : (sel.flatMap fun b => boxIds (bx' b)) = sel.flatMap fun b => boxIds (bx b) := by rw [List.flatMap_def, List.flatMap_def, List.map_congr_left fun b h => by rw [hs b h]]
      have e7 : (sel.flatMap fun b => bxCells (bx' b)) = sel.flatMap fun b => bxCells (bx b) := by rw [List.flatMap_def, List.flatMap_def, List.map_congr_left fun b h => by rw [hs b h]]
      simp only [acall, hsel]
      refine ⟨r, outs, by rw [e1, e2, e3]; exact hr, ?_, ?_⟩
      · obtain ⟨h1, h2, h3, h4, h5, h6, h7, h8⟩ := hside
        refine ⟨h1, ?_, h3, h4, h5, ?_, h7, h8⟩
        · rw [List.all_eq_true] at h2 ⊢; intro b h; rw [hs b h]; exact h2 b h
        · rw [List.all_eq_true] at h6 ⊢; intro b h; rw [e4 b h]; exact h6 b h
      · rw [e5, e6, e7]; exact hk'
  all_goals exact h.elim

theorem aop_loc {P : Program} {l : FuncId → List Nat} {c : Nat} {ev : Operand → AV} {op : Op} {bx : Nat → Bx} {K : Kt} (h : aop P (Gx P l) c ev bx op K) :
    Loc (fun bx K => aop P (Gx P l) c ev bx op K) bx K := by
  cases op
  case move x => exact .val h fun _ K' hk => hk
  case assign x => exact .val h fun _ K' hk => hk
  case pick g a b => exact aPick_loc h
  case alloc t => exact aAlloc_loc h
  case box t x => exact aBox_loc h
  case build t ps => exact aBuild_loc h
  case buildSlice t n ps => exact aBuildL_loc h
  case load t a => exact aLoad_loc h
  case store t a x => exact aStore_loc h
  case nilCheck x => exact aNil_loc h
  case binOp op t x y u => exact aBinW_loc h
  case field t x f => exact aFld_loc h
  case unOp op t x => exact aUn_loc h
  case convert s d x => exact aConvS_loc h
  case index t x i => exact aIndex_loc h
  case fieldAddr t x f => exact aField_loc h
  case indexAddr t x i => exact aIdx_loc h
  case slice t x lo hi mx =>
    cases mx with
    | none => exact aCut_loc (E := fun bx K => aSlice (slTy P t).isSome (dies bx (ev x)) (ev x).bid (cont (SC0 (slTy P t)) bx (ev x)) (lo.map ev) (hi.map ev) none K) h aSlice_loc
    | some m => exact aSlice3_loc h
  case extract x i => exact aExtr_loc h
  case makeSlice t a b => exact aMake_loc h
  case makeFunc fn first captured =>
    simp only [aop] at h ⊢
    cases fn
    case func f =>
      cases hf : first.toList with
      | nil => rw [hf] at h; exact .val h fun _ K' hk => hk
      | cons x r => rw [hf] at h; exact h.elim
    all_goals exact h.elim
  case call c' =>
    obtain ⟨callee, args, ts⟩ := c'
    cases callee
    case value f => exact acall_loc h
    case builtin b =>
      cases b
      case len =>
        simp only [aop] at h ⊢
        split at h
        · exact aLen_loc h
        · exact h.elim
      case append =>
        simp only [aop] at h ⊢
        split at h
        · exact aAppend_loc h
        · exact h.elim
      case max =>
        simp only [aop] at h ⊢
        split at h
        · exact aMax_loc h
        · exact h.elim
      case min =>
        simp only [aop] at h ⊢
        split at h
        · exact aMin_loc h
        · exact h.elim
      all_goals exact h.elim
    all_goals exact h.elim
  all_goals exact h.elim

end AM
end Go.Proofs.YtbookhehpebcmaaGreatDoor
