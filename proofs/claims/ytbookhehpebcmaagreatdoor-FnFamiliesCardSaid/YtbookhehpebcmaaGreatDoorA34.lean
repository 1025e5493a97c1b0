/-
  An abstract machine over the kit's Code.wp, and its soundness: part 34, the library's own contracts (strings) as contracts of the machine.
-/
import Derived.Test.YtbookhehpebcmaaGreatDoorA30
import Derived.Lib.Split
import Derived.Lib.SplitLaws
import Derived.Lib.Join
import Derived.Lib.ItoaNum
import Derived.Lib.AppendIntMem
namespace Go.Proofs.YtbookhehpebcmaaGreatDoor
namespace AM
set_option linter.unusedVariables false
set_option linter.unusedSimpArgs false

/-- A function that hands back a plain value and writes nothing that was there. -/
theorem ARuns_val {P : Program} {f : FuncId} {args : List AV} {r : AV} {v : Value} (hc : callable P f = true) (hv : ∀ (w : World) (M F : Nat → Prop) (g : Gh) (args : List Value), Rel w M F g args r v)
    (h : ∀ (w : World) (vals : List Value) (F : Nat → Prop) (g : Gh), (∀ k, F k → k < w.heap.size) → RelL w (fun _ => False) F g [] args vals → LaidW w → Calls P f vals.toArray w fun e w' => e = .returned v ∧ RowKit.Below w.heap.size w w') :
    ARuns P f args [] r [] := by
  refine ⟨hc, fun w vals F0 g hF hB hE hR hglo => ?_⟩
  have hM : Mut g (getB []) = fun _ => False := by funext k; exact propext ⟨fun h => dead_nil h, fun h => h.elim⟩
  rw [hM] at hR
  refine (h w vals F0 g hF hR hglo.1).mono ?_
  rintro e w' ⟨rfl, hb⟩
  refine ⟨v, g, rfl, ⟨hb.os, hb.tape, hb.output, hb.size, fun k hk _ => hb.block k hk⟩, ⟨fun _ _ h => h, fun _ _ _ h => h⟩, fun b => ?_, fun b b' k h1 h2 => absurd ⟨b, h1⟩ dead_nil, fun b k h1 => absurd ⟨b, h1⟩ dead_nil, hv _ _ _ _ _⟩
  have := hB b
  cases b <;> exact this

/-- A function that hands back a new row of strings. -/
theorem ARuns_strs {P : Program} {f : FuncId} {args : List AV} {e : TypeId} {ss : List ByteArray} {c : Nat} {cs : Array Value} (hc : callable P f = true)
    (hn : ss.length ≤ c) (hcm : c ≤ maxLen) (hcs : cs.size = c) (hget : ∀ i, i < ss.length → cs[i]? = some (.string (ss.getD i ⟨#[]⟩)))
    (h : ∀ (w : World) (vals : List Value) (F : Nat → Prop) (g : Gh), RelL w (fun _ => False) F g [] args vals → Calls P f vals.toArray w fun e' w' => e' = .returned (.slice (some ⟨w.heap.size, 0, none⟩) ss.length c) ∧ w' = w.alloc (.cells cs e)) :
    ARuns P f args [] (.ref 0 ss.length) [.row e (.strs ss)] := by
  refine ⟨hc, fun w vals F0 g hF hB hE hR hglo => ?_⟩
  have hM : Mut g (getB []) = fun _ => False := by funext k; exact propext ⟨fun h => dead_nil h, fun h => h.elim⟩
  rw [hM] at hR
  refine (h w vals F0 g hR).mono ?_
  rintro e' w' ⟨rfl, rfl⟩
  have hnone : ∀ b, g.bb b = none ∧ ∀ n, g.gh b n = none := fun b => by
    have := hB b
    cases b <;> exact this
  have hb : RowKit.Below w.heap.size w (w.alloc (.cells cs e)) := (RowKit.Below.refl _ w).alloc (Nat.le_refl _) _
  have hh : (w.alloc (.cells cs e)).heap[w.heap.size]? = some (.cells cs e (0, 0)) := heap_alloc_new w _
  let v : Value := .slice (some ⟨w.heap.size, 0, none⟩) ss.length c
  have hv : ∃ a cap, v = .slice a ss.length cap := ⟨_, _, rfl⟩
  have key : ∀ b k, AliveB (g.setR 0 ss.length v hv) (getB [.row e (.strs ss)]) b k → b = 0 ∧ w.heap.size = k := by
    intro b k hk
    cases b with
    | succ b => rw [AliveB, getB_one] at hk; exact hk.elim
    | zero =>
      refine ⟨rfl, ?_⟩
      simp only [AliveB, getB, AliveX, SC.len, Gh.setR, upd_same] at hk
      obtain ⟨cap, hk⟩ := hk
      simp only [v, Option.some.injEq, Value.slice.injEq, Addr.mk.injEq, and_true] at hk
      exact hk.1
  refine ⟨v, g.setR 0 ss.length v hv, rfl, ⟨hb.os, hb.tape, hb.output, hb.size, fun k hk _ => hb.block k hk⟩, ⟨fun b k h => h, fun b n u h => ?_⟩, fun b => ?_, fun b b' k h1 h2 => by rw [(key b k h1).1, (key b' k h2).1], fun b k h => .inr (Nat.le_of_eq (key b k h).2), by simp only [Rel, Gh.setR, upd_same]⟩
  · rw [(hnone b).2 n] at h; cases h
  · cases b with
    | succ b =>
      rw [getB_one]
      refine ⟨(hnone _).1, fun n => ?_⟩
      simp only [Gh.setR]
      rw [upd_other _ _ (by omega)]
      exact (hnone _).2 n
    | zero =>
      refine ⟨(hnone 0).1, fun n hn => ?_, .inr ⟨w.heap.size, c, cs, by simp only [SC.len, Gh.setR, upd_same, v], hh, by omega, hn, hcm, .inr (Nat.le_refl _), fun i hi => ⟨_, hget i hi, rfl⟩⟩⟩
      simp only [SC.len] at hn
      simp only [Gh.setR, upd_same]
      rw [upd_other _ _ (by omega)]
      exact (hnone 0).2 n

/-- What a view of strings is. -/
theorem strs_view {w : World} {M F : Nat → Prop} {g : Gh} {args : List Value} {ss : List ByteArray} {v : Value} (h : Rel w M F g args (.sl none (.strs ss)) v) :
    ∃ a cap, v = .slice a ss.length cap ∧ ss.length ≤ cap ∧ (0 < ss.length → ∃ b off, a = some ⟨b, off, none⟩ ∧ ∀ (j : Nat) x, ss[j]? = some x → w.cell? ⟨b, off + j, none⟩ = some (.string x)) := by
  simp only [Rel] at h
  obtain ⟨⟨a, cap, rfl, h1, h2, h3⟩, _⟩ := h
  refine ⟨a, cap, rfl, h1, fun h0 => ?_⟩
  obtain ⟨u, ⟨ad, hd, hs, _, _⟩, _⟩ := h3 0 h0
  obtain ⟨b, off, spot⟩ := ad
  simp only at hs
  subst hs
  refine ⟨b, off, hd, fun j x hj => ?_⟩
  have hlt : j < ss.length := (List.getElem?_eq_some_iff.1 hj).1
  obtain ⟨u, ⟨ad', hd', _, _, hc⟩, he⟩ := h3 j hlt
  rw [hd] at hd'
  cases hd'
  simp only [ElR] at he
  rw [hc, he, List.getD_eq_getElem?_getD, hj]
  rfl

end AM
end Go.Proofs.YtbookhehpebcmaaGreatDoor
