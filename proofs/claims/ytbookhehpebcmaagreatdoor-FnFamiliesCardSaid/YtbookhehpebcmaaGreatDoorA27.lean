/-
  An abstract machine over the kit's Code.wp, and its soundness: part 27, a law: its arguments are read, it returns true, its arguments read as they did.
-/
import Derived.Test.YtbookhehpebcmaaGreatDoorA21
import Derived.OpenShut
import Derived.Carry
namespace Go.Proofs.YtbookhehpebcmaaGreatDoor
namespace AM
open Go.ChangeShapes Go.WideShapes Go.ChangeAt Go.RowKit
set_option linter.unusedVariables false
set_option linter.unusedSimpArgs false

/-- What a parameter of type t can be: S. -/
def Opens (P : Program) (t : TypeId) (S : AV → Prop) : Prop :=
  ∀ (H : Type) (enc : TypeId × Value → H) (W : World) (base : Nat) (v : Value) (d : DataW H) (p : List MemPlace), Value.okWide P W .any base t v → DataW.Trod enc P W 0 (fun _ => true) true t v d p →
    ∃ x, S x ∧ ∀ g, Rel W (fun _ => False) (fun _ => False) g [] x v

def SInt (x : AV) : Prop := ∃ n : Int, (-9223372036854775808 ≤ n ∧ n ≤ 9223372036854775807) ∧ x = .int .i64 n
def SBool (x : AV) : Prop := ∃ b : Bool, x = .bool b
def SInts (x : AV) : Prop := ∃ xs : List Int, (∀ n ∈ xs, -9223372036854775808 ≤ n ∧ n ≤ 9223372036854775807) ∧ xs.length ≤ 9223372036854775807 ∧ x = .sl none (.ints .i64 xs)

theorem opens_int {P : Program} {t : TypeId} (ht : P.underlying t = some (.int .i64)) : Opens P t SInt := by
  intro H enc W base v d p hv hd
  obtain ⟨n, rfl, rfl, rfl, hw⟩ := open_int ht hv hd
  exact ⟨.int .i64 n, ⟨n, bounds_i64 hw, rfl⟩, fun g => by simp only [Rel]⟩
theorem opens_bool {P : Program} {t : TypeId} (ht : P.underlying t = some .bool) : Opens P t SBool := by
  intro H enc W base v d p hv hd
  obtain ⟨b, rfl, rfl, rfl⟩ := open_bool ht hv hd
  exact ⟨.bool b, ⟨b, rfl⟩, fun g => by simp only [Rel]⟩

theorem ints_rel {P : Program} {t e : TypeId} (ht : P.underlying t = some (.slice e)) (he : P.underlying e = some (.int .i64)) (hc : P.cellsOf e = 1) {H : Type} {enc : TypeId × Value → H} {W : World} {fuel : Nat} {v : Value}
    {x : DataW H × List MemPlace} (h : DataW.trod enc P W 0 (fun _ => true) true fuel t [v] = some x) : ∃ y, SInts y ∧ ∀ g, Rel W (fun _ => False) (fun _ => False) g [] y v := by
  rcases open_ints ht he hc h with ⟨hcs, _⟩ | ⟨a, len, cap, zs, hcs, _, hl, hm, hz, _, hcell, hw⟩
  · cases hcs
    exact ⟨.sl none (.ints .i64 []), ⟨[], by simp, by simp, rfl⟩, fun g => by simp only [Rel, Vw]; exact ⟨⟨none, 0, rfl, by simp [SC.len], by simp, by simp [SC.len]⟩, trivial⟩⟩
  · cases hcs
    simp only [if_true] at hz
    have hmx : maxLen ≤ 9223372036854775807 := by decide
    have hlen : (zs.take len).length = len := by rw [List.length_take]; omega
    refine ⟨.sl none (.ints .i64 (zs.take len)), ⟨zs.take len, fun n hn => bounds_i64 (hw n (List.mem_of_mem_take hn)), Nat.le_trans (by omega) hmx, rfl⟩, fun g => ?_⟩
    simp only [Rel, Vw, SC.len, hlen]
    refine ⟨⟨some a, cap, rfl, hl, hm, fun i hi => ?_⟩, trivial⟩
    obtain ⟨b, off, rfl, hca⟩ := ints_at (w := W) (a := a) (k := .i64) (zs := zs) hcell (by omega)
    refine ⟨.int .i64 (zs.getD i 0), ⟨⟨b, off, none⟩, rfl, rfl, fun h => h, ?_⟩, ?_⟩
    · have := hcell i (by omega)
      by_cases h0 : i = 0
      · subst h0; simpa [Addr.add] using this
      · simpa [Addr.add, h0] using this
    · simp only [ElR]
      rw [List.getD_eq_getElem?_getD, List.getD_eq_getElem?_getD, List.getElem?_take, if_pos hi]

theorem opens_ints {P : Program} {t e : TypeId} (ht : P.underlying t = some (.slice e)) (he : P.underlying e = some (.int .i64)) (hc : P.cellsOf e = 1) : Opens P t SInts := by
  intro H enc W base v d p hv ⟨fuel, hd⟩
  obtain ⟨a, len, cap, rfl⟩ := okWide_slice ht hv
  exact ints_rel ht he hc hd

def OpensL (P : Program) : List TypeId → List (AV → Prop) → Prop
  | [], [] => True
  | t :: ts, S :: Ss => Opens P t S ∧ OpensL P ts Ss
  | _, _ => False
def SatL : List (AV → Prop) → List AV → Prop
  | [], [] => True
  | S :: Ss, x :: xs => S x ∧ SatL Ss xs
  | _, _ => False

theorem open_all {P : Program} {H : Type} {enc : TypeId × Value → H} {W : World} {base : Nat} : ∀ {ts : List TypeId} {Ss : List (AV → Prop)} {vs : List Value} {ds : List (DataW H)} {ps : List MemPlace}, OpensL P ts Ss →
    (∀ (j : Nat) t v, ts[j]? = some t → vs[j]? = some v → Value.okWide P W .any base t v) → DataW.TrodAll enc P W 0 (fun _ => true) true ts vs ds ps → ∃ xs, SatL Ss xs ∧ ∀ g, RelL W (fun _ => False) (fun _ => False) g [] xs vs
  | [], [], vs, ds, ps, _, _, h => by
    obtain ⟨rfl, rfl, rfl⟩ := trodAll_nil h
    exact ⟨[], trivial, fun g => by simp only [RelL]⟩
  | t :: ts, S :: Ss, vs, ds, ps, ho, hv, h => by
    obtain ⟨v, vs, d, ds, p, q, rfl, rfl, rfl, h0, h1⟩ := trodAll_cons h
    obtain ⟨x, hx, hr⟩ := ho.1 H enc W base v d p (hv 0 t v rfl rfl) h0
    obtain ⟨xs, hxs, hrs⟩ := open_all ho.2 (fun j t v hj hv' => hv (j + 1) t v (by simpa using hj) (by simpa using hv')) h1
    exact ⟨x :: xs, ⟨hx, hxs⟩, fun g => by simp only [RelL]; exact ⟨v, vs, rfl, hr g, hrs g⟩⟩
  | [], _ :: _, _, _, _, h, _, _ => h.elim
  | _ :: _, [], _, _, _, h, _, _ => h.elim

theorem Frame0.below {W W' : World} (h : Frame0 W W' (fun _ => False)) : Below W.heap.size W W' := ⟨h.os, h.tape, h.output, h.size, fun k hk => h.frame k hk id⟩

theorem below_all {P : Program} {H : Type} {enc : TypeId × Value → H} {W W' : World} (hl : laidOutB P = true) (hb : Below W.heap.size W W') {sp : Nat → Bool} : ∀ {ts : List TypeId} {vs : List Value} {ds : List (DataW H)} {ps : List MemPlace},
    (∀ t ∈ ts, P.readableRec t = true ∧ t < P.types.size) → DataW.TrodAll enc P W 0 (fun _ => true) true ts vs ds ps → (∀ x ∈ ps, x.block < W.heap.size) → (∀ x ∈ ps, sp x.block = true) → DataW.TrodAll enc P W' 0 sp true ts vs ds ps
  | [], vs, ds, ps, _, h, _, _ => by obtain ⟨rfl, rfl, rfl⟩ := trodAll_nil h; exact trodAll_mk0
  | t :: ts, vs, ds, ps, ht, h, hlt, hsp => by
    obtain ⟨v, vs, d, ds, p, q, rfl, rfl, rfl, h0, h1⟩ := trodAll_cons h
    have hp : ∀ x ∈ p, x.block < W.heap.size := fun x hx => hlt x (List.mem_append_left _ hx)
    refine trodAll_cons_mk (WideElems.Trod_stays hl (ht t List.mem_cons_self).1 (ht t List.mem_cons_self).2 h0 (fun x hx => hb.same (hp x hx)) (fun x hx => hsp x (List.mem_append_left _ hx))) ?_
    exact below_all hl hb (fun t' h' => ht t' (List.mem_cons_of_mem _ h')) h1 (fun x hx => hlt x (List.mem_append_right _ hx)) (fun x hx => hsp x (List.mem_append_right _ hx))

theorem trodAll_len {P : Program} {H : Type} {enc : TypeId × Value → H} {w : World} {base : Nat} {sp : Nat → Bool} {held : Bool} : ∀ {ts : List TypeId} {vs : List Value} {ds : List (DataW H)} {ps : List MemPlace}, DataW.TrodAll enc P w base sp held ts vs ds ps → ds.length = ts.length
  | [], vs, ds, ps, h => by obtain ⟨rfl, rfl, rfl⟩ := trodAll_nil h; rfl
  | t :: ts, vs, ds, ps, h => by
    obtain ⟨v, vs, d, ds, p, q, rfl, rfl, rfl, h0, h1⟩ := trodAll_cons h
    simp [trodAll_len h1]

/-- A law: what must be shown of its walk. -/
theorem law_contract {P : Program} {f : FuncId} {fn : Func} {s : ChangeSpec} {tb : TypeId} {Ss : List (AV → Prop)} (hl : laidOutB P = true) (hty : (fn.params.toList.all fun t => P.readableRec t && decide (t < P.types.size)) = true) (hres : fn.resultTypes = #[tb])
    (hb : P.underlying tb = some .bool) (hv : s.vars = []) (hs : ∀ (H : Type) (ds : List (DataW H)), ds.length = fn.params.toList.length → s.fn H ds = { results := [.lit (.bool true)], args := ds }) (ho : OpensL P fn.params.toList Ss)
    (walk : ∀ xs, SatL Ss xs → ARuns P f xs [] (.bool true) []) {H : Type} {enc : TypeId × Value → H} : ∀ (W : World) (base : Nat) (args : Array Value) (ds gs : List (DataW H)) (before : List MemPlace),
      (∀ (j : Nat) t v, fn.params[j]? = some t → args[j]? = some v → Value.okWide P W .any base t v) → DataW.Whole enc P fn.params.toList s.vars false W args.toList ds gs before →
      LaidW W → nGlob ≤ W.heap.size →
      Calls P f args W fun e W' => ∃ v, e = .returned v ∧ s.post enc P fn false true false false W args v W' := by
  intro W base args ds gs before hval hW hfa hng
  have hlt := hW.lt
  have hW' := hW
  obtain ⟨p, q, hA, hV, rfl, hfz, hnd⟩ := hW
  rw [hv] at hV
  obtain ⟨rfl, rfl⟩ := trodVars_none hV
  obtain ⟨xs, hxs, hr⟩ := open_all ho (fun j t v hj hv => hval j t v (by simpa using hj) (by simpa using hv)) hA
  have := (walk xs hxs).calls_bool ⟨hfa, fun k hk => ⟨by omega, id⟩⟩ hr
  simp only [Array.toArray_toList] at this
  refine this.mono fun e W' ⟨he, hg⟩ => ?_
  subst he
  have hds : ds.length = fn.params.toList.length := trodAll_len hA
  have hfn := hs H ds hds
  have hty' : ∀ t ∈ fn.params.toList, P.readableRec t = true ∧ t < P.types.size := fun t ht => by
    have := List.all_eq_true.1 hty t ht
    simpa using this
  refine ⟨_, rfl, post_of_frame (pa := p) (pv := []) hW' hg (fun _ _ _ => ?_) (fun sp hsp => ?_) (fun _ _ => ?_) rfl ?_⟩
  · rw [List.append_nil, hfn, hres]
    exact trodAll_cons_mk (shut_bool hb _) trodAll_mk0
  · rw [List.append_nil, hfn]
    exact below_all hl hg.below hty' hA (fun x hx => hlt x (List.mem_append_left _ hx)) (fun x hx => hsp x (List.mem_append_left _ hx))
  · rw [hv, List.append_nil, hfn]; rfl
  · exact ok_one hres rfl (okWide_bool_mk hb _)

end AM
end Go.Proofs.YtbookhehpebcmaaGreatDoor
