/-
  For all arguments the law FnFamilies holds, the listed tables of Go's own library being what the program's text lays. No further condition.
-/
import Derived.Test.YtbookhehpebcmaaGreatDoorCards
import Derived.Test.YtbookhehpebcmaaGreatDoorTie
import Derived.ProofKit
import Derived.OpenShut
import Derived.LaidMore
import Derived.Lay
import Derived.SevenTiedAt
import Derived.Stop.Joined
import Derived.Test.YtbookhehpebcmaaGreatDoorM6
namespace Go.Proofs.YtbookhehpebcmaaGreatDoor
open AM
set_option linter.unusedSimpArgs false
set_option linter.unusedVariables false
namespace Z3
open Go.ChangeShapes Go.WideShapes Go.ChangeAt Go.RowKit
theorem own : ownKnob Tryz.prog.godebug = none := by kernel_rfl
theorem laidOut : laidOutB Tryz.prog = true := by kernel_rfl
theorem cells_int : Tryz.prog.cellsOf 3 = 1 := by kernel_rfl
theorem cells_u8 : Tryz.prog.cellsOf 5 = 1 := by kernel_rfl
theorem und_bool : Tryz.prog.underlying 4 = some .bool := by kernel_rfl
theorem func : Tryz.prog.funcs[3]? = some Tryz.f3 := by kernel_rfl
theorem params : Tryz.f3.params.toList = [22] := by kernel_rfl
theorem res : Tryz.f3.resultTypes = #[4] := by kernel_rfl
theorem opens : OpensL Tryz.prog Tryz.f3.params.toList [SBytes] := by rw [params]; exact ⟨opens_bytes un22 un5 cells_u8, trivial⟩
theorem walk : ∀ xs, SatL [SBytes] xs → ARuns Tryz.prog 3 xs [] (.bool true) [] := by
  intro xs h0
  obtain ⟨_, _, rfl, ⟨bs, hp1, hp2, rfl⟩, h1⟩ := satL_cons h0
  obtain rfl := satL_nil h1
  exact runs_laws_FnFamilies bs hp1 hp2
theorem pow_data : (Rows.laid_internal_strconv_uint64pow10 : DataW Unit) = Lib.tabData .u64 Lib.pow10Tab := by kernel_rfl
theorem un_tab : Tryz.prog.underlying 142 = some (.array 20 120) := by kernel_rfl
theorem un_word : Tryz.prog.underlying 120 = some (.int .u64) := by kernel_rfl
theorem ty_tab : (Tryz.prog.globals[3]?).map (·.type) = some 142 := by kernel_rfl
theorem laid_glo {W : World} (h : laidMetH Tryz.prog Rows.fnFamiliesRow.laid W) : LaidW W ∧ nGlob ≤ W.heap.size := by
  rw [MakeChecks.laidMetH_plain _ _ _ (by kernel_rfl)] at h
  obtain ⟨ps, ⟨g0, t0, cs0, f0, p0, q0, hg0, ht0, hv0, hd0, ⟨g1, t1, cs1, f1, p1, q1, hg1, ht1, hv1, hd1, ⟨g2, t2, cs2, f2, p2, q2, hg2, ht2, hv2, hd2, _, _⟩, _⟩, _⟩, _, _⟩ := h
  obtain rfl := Option.some.inj (pow10_at.symm.trans hg2)
  obtain rfl := Option.some.inj (ty_tab.symm.trans ht2)
  rw [pow_data] at hd2
  have hc := Lib.cells_of_tab un_tab un_word (by kernel_rfl) (by kernel_rfl) hd2
  refine ⟨?_, ?_⟩
  · unfold LaidW Lib.TabIs
    rw [hv2, ← hc]
  · have hs := hv2
    unfold World.var? at hs
    rw [pow10_at] at hs
    simp only [Option.bind_some] at hs
    show 4 ≤ W.heap.size
    by_cases h3 : 4 ≤ W.heap.size
    · exact h3
    · rw [Array.getElem?_eq_none (by omega)] at hs; simp at hs
set_option maxRecDepth 100000 in
theorem lifted (os : Os) (started : os.Started) (H : Type) (enc : TypeId × Value → H) :
    ReturnsInHanded {} Tryz.checked os 3 .any (fun w args => (Rows.fnFamiliesSpec.pre enc Tryz.prog Tryz.f3 Rows.fnFamiliesRow.domain false w args ∧ laidMetH Tryz.prog Rows.fnFamiliesRow.laid w) ∧ sizedMet enc Tryz.prog Tryz.f3 (OpenSpec.ofChange Rows.fnFamiliesSpec) false w args) (Rows.fnFamiliesSpec.post enc Tryz.prog Tryz.f3 false true false false) :=
  returnsInHanded_of_change_and (C := Tryz.checked) (X := fun w _ => laidMetH Tryz.prog Rows.fnFamiliesRow.laid w) (fun _ _ _ hh h => h.of_heap hh) own started (by kernel_rfl) func
    (ChangeSpec.witness_shaped (enc := enc) (C := Tryz.checked) (os := os) (X := fun w _ => laidMetH Tryz.prog Rows.fnFamiliesRow.laid w) false (World.laidAll Tryz.prog os Rows.fnFamiliesRow.laid) #[.slice none 0 0] 8 (World.laidAll_os _ _ _) (World.shaped_of_ZipB (by kernel_rfl) (by kernel_rfl)) (by kernel_rfl) (by kernel_rfl) (by kernel_rfl)
      (by rw [MakeChecks.laidMetH_plain _ _ _ (by kernel_rfl)]; exact laidMet_laidAll _ (by kernel_rfl) (by kernel_rfl)))
    fun W base args ds gs before hval hW _ _ hL _ => law_contract (P := Tryz.prog) (f := 3) (fn := Tryz.f3) (s := Rows.fnFamiliesSpec) laidOut (by kernel_rfl) res und_bool rfl (fun H ds h => by rw [params] at h; match ds, h with | [d1], _ => rfl) opens walk W base args ds gs before hval hW (laid_glo hL).1 (laid_glo hL).2
theorem over : Rows.fnFamiliesRow.holds Tryz.pinned (OpenSpec.ofChange Rows.fnFamiliesSpec) :=
  OpenClaim.holds_of_wide 3 Tryz.f3 rfl rfl rfl rfl rfl rfl rfl ⟨rfl, rfl, rfl, rfl, rfl⟩ rfl rfl rfl rfl rfl (by kernel_rfl) func (by kernel_rfl)
    (of_decide_eq_true (by kernel_rfl)) (by unfold Func.isWrapper; first | (rw [if_pos (by decide +kernel)]; kernel_rfl) | (rw [if_neg (by decide +kernel)]; exact ⟨rfl, rfl⟩))
    (fun os started H enc _ => lifted os started H enc)
theorem card : Rows.FnFamiliesCardSaid :=
  Claim7.holds_tied_plain_at .later [] [.data, .data, .data, .data, .pinned] true (true, "4db8007a407b85b24a165146b8ad3670a8e5574cffb08b3ad7e8e8c7abee7ea8") false
    over (fun _ h => by cases h) (by kernel_rfl) (fun _ h => by cases h) fnFamilies_row_tie rfl ⟨rfl, rfl⟩ (by kernel_rfl) rfl
    (fun f fn hf hfn => by
      obtain rfl : f = 3 := Option.some.inj ((show Tryz.prog.funcNamed "loop.example/g03405/laws.FnFamilies" = some 3 by kernel_rfl).symm.trans hf) |>.symm
      obtain rfl : fn = Tryz.f3 := (Option.some.inj (func.symm.trans hfn)).symm
      exact ⟨by kernel_rfl, fun j t ht => by
        have hm : t ∈ [22] := by
          have := Array.mem_of_getElem? ht
          rw [← Array.mem_toList_iff, params] at this
          exact this
        have hall : ([22].all fun u => !Tryz.prog.wantsStandIn u) = true := by kernel_rfl
        exact (show Tryz.prog.wantsStandIn t = false by simpa using List.all_eq_true.1 hall t hm)⟩)
    (by kernel_rfl)
end Z3
theorem fnFamilies : Rows.FnFamiliesCardSaid := Z3.card
#print axioms fnFamilies
end Go.Proofs.YtbookhehpebcmaaGreatDoor
