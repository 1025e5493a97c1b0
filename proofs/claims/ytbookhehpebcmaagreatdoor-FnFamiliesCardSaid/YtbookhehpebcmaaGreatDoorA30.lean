/-
  An abstract machine over the kit's Code.wp, and its soundness: part 30, the library's own contracts (slices of integers) as contracts of the machine.
-/
import Derived.Test.YtbookhehpebcmaaGreatDoorA33
import Derived.Sort.OwnSortedInts
import Derived.Lib.SlicesCompact
import Derived.Lib.RowBridge
import Derived.Below
namespace Go.Proofs.YtbookhehpebcmaaGreatDoor
namespace AM
set_option linter.unusedVariables false
set_option linter.unusedSimpArgs false

theorem dead_nil {g : Gh} {k : Nat} : ¬ Mut g (getB []) k := by
  rintro ⟨b, hb⟩
  unfold AliveB at hb
  cases b <;> exact hb

theorem getB_one {x : Bx} {b : Nat} : getB [x] (b + 1) = .none := by cases b <;> rfl

/-- What a view of integers is. -/
theorem ints_view {w : World} {M F : Nat → Prop} {g : Gh} {args : List Value} {xs : List Int} {v : Value} (h : Rel w M F g args (.sl none (.ints .i64 xs)) v) :
    ∃ a cap, v = .slice a xs.length cap ∧ xs.length ≤ cap ∧ (0 < xs.length → ∃ b off, a = some ⟨b, off, none⟩ ∧ ∀ j, j < xs.length → w.cell? ⟨b, off + j, none⟩ = some (.int .i64 (xs.getD j 0))) := by
  simp only [Rel] at h
  obtain ⟨⟨a, cap, rfl, h1, h2, h3⟩, _⟩ := h
  refine ⟨a, cap, rfl, h1, fun h0 => ?_⟩
  obtain ⟨u, ⟨ad, hd, hs, _, _⟩, _⟩ := h3 0 h0
  obtain ⟨b, off, spot⟩ := ad
  simp only at hs
  subst hs
  refine ⟨b, off, hd, fun j hj => ?_⟩
  obtain ⟨u, ⟨ad', hd', _, _, hc⟩, he⟩ := h3 j hj
  rw [hd] at hd'
  cases hd'
  simp only [ElR] at he
  rw [hc, he]

/-- A row that the callee has made, and nothing else. -/
theorem own_row {w w' : World} {F0 : Nat → Prop} {g : Gh} {e : TypeId} {xs : List Int} {v : Value} {vals : List Value} (hB : ∀ b, BxR w (Mut g (getB [])) F0 g [] b (getB [] b)) (ho : w'.ownsRow w.heap.size e 1 v xs.length (xs.map (Value.int .i64)))
    (hb : RowKit.Below w.heap.size w w') : ∃ g', Frame0 w w' (Mut g (getB [])) ∧ Gh.le g g' ∧
      (∀ b, BxR w' (Mut g' (getB [.row e (.ints .i64 xs)])) (fun k => F0 k ∨ w.heap.size ≤ k) g' vals b (getB [.row e (.ints .i64 xs)] b)) ∧
      (∀ b b' k, AliveB g' (getB [.row e (.ints .i64 xs)]) b k → AliveB g' (getB [.row e (.ints .i64 xs)]) b' k → b = b') ∧
      (∀ b k, AliveB g' (getB [.row e (.ints .i64 xs)]) b k → Mut g (getB []) k ∨ w.heap.size ≤ k) ∧
      Rel w' (Mut g' (getB [.row e (.ints .i64 xs)])) (fun k => F0 k ∨ w.heap.size ≤ k) g' vals (.ref 0 xs.length) v := by
  have hv : ∃ a cap, v = .slice a xs.length cap := by
    rcases ho.2 with ⟨h1, h2⟩ | ⟨k, cap, cur, h1, _⟩
    · exact ⟨none, 0, by rw [h1, h2]⟩
    · exact ⟨_, cap, h1⟩
  have hnone : ∀ b, g.bb b = none ∧ ∀ n, g.gh b n = none := fun b => by
    have := hB b
    cases b <;> exact this
  have key : ∀ b k, AliveB (g.setR 0 xs.length v hv) (getB [.row e (.ints .i64 xs)]) b k → b = 0 ∧ w.heap.size ≤ k := by
    intro b k hk
    cases b with
    | succ b => rw [AliveB, getB_one] at hk; exact hk.elim
    | zero =>
      refine ⟨rfl, ?_⟩
      simp only [AliveB, getB, AliveX, SC.len, Gh.setR, upd_same] at hk
      obtain ⟨cap, hk⟩ := hk
      cases hk
      rcases ho.2 with ⟨h1, h2⟩ | ⟨k', cap', cur, h1, h2, _⟩
      · cases h1
      · cases h1; exact h2
  refine ⟨g.setR 0 xs.length v hv, ⟨hb.os, hb.tape, hb.output, hb.size, fun k hk _ => hb.block k hk⟩, ⟨fun b k h => h, fun b n u h => ?_⟩, fun b => ?_, fun b b' k h1 h2 => ?_, fun b k h => .inr (key b k h).2, by simp only [Rel, Gh.setR, upd_same]⟩
  · rw [(hnone b).2 n] at h; cases h
  · cases b with
    | succ b =>
      rw [getB_one]
      refine ⟨(hnone _).1, fun n => ?_⟩
      simp only [Gh.setR]
      rw [upd_other _ _ (by omega)]
      exact (hnone _).2 n
    | zero =>
      refine ⟨(hnone 0).1, fun n hn => ?_, ?_⟩
      · simp only [SC.len] at hn
        simp only [Gh.setR, upd_same]
        rw [upd_other _ _ (by omega)]
        exact (hnone 0).2 n
      · rcases ho.2 with ⟨h1, h2⟩ | ⟨k, cap, cur, h1, h2, h3, h4, h5, h6, h7⟩
        · refine .inl ⟨h2, ?_⟩
          simp only [Gh.setR, h2, upd_same, h1]
        · refine .inr ⟨k, cap, cur, by simp only [SC.len, Gh.setR, upd_same, h1], h3, by omega, h4, h5, .inr h2, fun i hi => ?_⟩
          simp only [SC.len] at hi
          refine ⟨.int .i64 (xs.getD i 0), ?_, by simp only [ElR]⟩
          have h8 : (cur.toList.take (xs.length * 1))[i]? = (xs.map (Value.int .i64))[i]? := by rw [h7]
          rw [Nat.mul_one, List.getElem?_take_of_lt hi] at h8
          rw [← Array.getElem?_toList, h8, List.getElem?_map, List.getElem?_eq_getElem hi, List.getD_eq_getElem?_getD, List.getElem?_eq_getElem hi]
          rfl
  · rw [(key b k h1).1, (key b' k h2).1]

theorem ARuns_clone {P : Program} {f : FuncId} {e : TypeId} (hc : callable P f = true)
    (h1 : ∀ (b off n c : Nat) (zs : List Int) (w : World), n ≤ zs.length → n * 8 ≤ 140737488355328 → (∀ j, j < zs.length → w.cell? ⟨b, off + j, none⟩ = some (.int .i64 (zs.getD j 0))) →
      Calls P f #[.slice (some ⟨b, off, none⟩) n c] w fun r w' => ∃ v', r = .returned v' ∧ w'.ownsRow w.heap.size e 1 v' n ((zs.take n).map (Value.int .i64)) ∧ v' ≠ .slice none 0 0 ∧ RowKit.Below w.heap.size w w')
    (h2 : ∀ (n c : Nat) (w : World), Calls P f #[.slice none n c] w fun r w' => r = .returned (.slice none 0 0) ∧ w' = w)
    (h3 : ∀ (a : Addr) (c : Nat) (w : World), Calls P f #[.slice (some a) 0 c] w fun r w' => ∃ v', r = .returned v' ∧ w'.ownsRow w.heap.size e 1 v' 0 [] ∧ v' ≠ .slice none 0 0 ∧ RowKit.Below w.heap.size w w')
    {xs : List Int} (hx : xs.length ≤ 1099511627776) : ARuns P f [.sl none (.ints .i64 xs)] [] (.ref 0 xs.length) [.row e (.ints .i64 xs)] := by
  refine ⟨hc, fun w vals F0 g hF hB hE hR _ => ?_⟩
  simp only [RelL] at hR
  obtain ⟨v, _, rfl, hv, rfl⟩ := hR
  obtain ⟨a, cap, rfl, hcap, hcell⟩ := ints_view hv
  cases a with
  | none =>
    have h0 : xs.length = 0 := by
      by_cases h : 0 < xs.length
      · obtain ⟨b, off, hh, _⟩ := hcell h; cases hh
      · omega
    refine (h2 _ _ w).mono fun r w' hr => ?_
    obtain ⟨rfl, rfl⟩ := hr
    obtain ⟨g', hh⟩ := own_row (w' := w') (e := e) (xs := xs) (v := .slice none 0 0) (vals := [.slice none xs.length cap]) hB ⟨by simp, .inl ⟨rfl, h0⟩⟩ (RowKit.Below.refl _ _)
    exact ⟨_, g', rfl, hh⟩
  | some ad =>
    by_cases h : 0 < xs.length
    · obtain ⟨b, off, hh, hcl⟩ := hcell h
      cases hh
      refine (h1 b off xs.length cap xs w (Nat.le_refl _) (by omega) hcl).mono fun r w' hr => ?_
      obtain ⟨v', rfl, ho, _, hb⟩ := hr
      rw [List.take_length] at ho
      obtain ⟨g', hh⟩ := own_row (vals := [.slice (some ⟨b, off, none⟩) xs.length cap]) hB ho hb
      exact ⟨_, g', rfl, hh⟩
    · have h0 : xs.length = 0 := by omega
      have hnil : xs = [] := List.length_eq_zero_iff.1 h0
      subst hnil
      refine (h3 ad cap w).mono fun r w' hr => ?_
      obtain ⟨v', rfl, ho, _, hb⟩ := hr
      obtain ⟨g', hh⟩ := own_row (xs := []) (vals := [.slice (some ad) 0 cap]) hB ho hb
      exact ⟨_, g', rfl, hh⟩

/-- A function that reads a slice. -/
theorem ARuns_read {P : Program} {f : FuncId} (hc : callable P f = true) {xs : List Int} {x : Int} {r : AV} {v : Value} (hv : ∀ (w : World) (M F : Nat → Prop) (g : Gh) (args : List Value), Rel w M F g args r v)
    (h1 : ∀ (b off c : Nat) (w : World), (∀ j, j < xs.length → w.cell? ⟨b, off + j, none⟩ = some (.int .i64 (xs.getD j 0))) →
      Calls P f #[.slice (some ⟨b, off, none⟩) xs.length c, .int .i64 x] w fun e w' => e = .returned v ∧ ∃ q, w' = w.drewN q)
    (h2 : xs.length = 0 → ∀ (a : Option Addr) (c : Nat) (w : World), Calls P f #[.slice a 0 c, .int .i64 x] w fun e w' => e = .returned v ∧ ∃ q, w' = w.drewN q) :
    ARuns P f [.sl none (.ints .i64 xs), .int .i64 x] [] r [] := by
  refine ⟨hc, fun w vals F0 g hF hB hE hR _ => ?_⟩
  simp only [RelL] at hR
  obtain ⟨v1, _, rfl, hv1, v2, _, rfl, hv2, rfl⟩ := hR
  simp only [Rel] at hv2
  subst hv2
  obtain ⟨a, cap, rfl, hcap, hcell⟩ := ints_view hv1
  have fin : ∀ q : Nat, ∃ v' g', Ending.returned v = .returned v' ∧ Frame0 w (w.drewN q) (Mut g (getB [])) ∧ Gh.le g g' ∧
      (∀ b, BxR (w.drewN q) (Mut g' (getB [])) (fun k => F0 k ∨ w.heap.size ≤ k) g' [.slice a xs.length cap, .int .i64 x] b (getB [] b)) ∧
      (∀ b b' k, AliveB g' (getB []) b k → AliveB g' (getB []) b' k → b = b') ∧
      (∀ b k, AliveB g' (getB []) b k → Mut g (getB []) k ∨ w.heap.size ≤ k) ∧
      Rel (w.drewN q) (Mut g' (getB [])) (fun k => F0 k ∨ w.heap.size ≤ k) g' [.slice a xs.length cap, .int .i64 x] r v' := fun q => by
    refine ⟨v, g, rfl, ⟨rfl, rfl, rfl, Nat.le_refl _, fun _ _ _ => rfl⟩, g.le_refl, fun b => ?_, hE, fun b k h => .inl ⟨b, h⟩, hv _ _ _ _ _⟩
    have := hB b
    cases b <;> exact this
  by_cases h : 0 < xs.length
  · obtain ⟨b, off, rfl, hcl⟩ := hcell h
    refine (h1 b off cap w hcl).mono fun e w' hr => ?_
    obtain ⟨rfl, q, rfl⟩ := hr
    exact fin q
  · have h0 : xs.length = 0 := by omega
    rw [h0] at fin ⊢
    refine (h2 h0 a cap w).mono fun e w' hr => ?_
    obtain ⟨rfl, q, rfl⟩ := hr
    exact fin q

open Go.Sort in
/-- A row whose cells have been written, all in their place. -/
theorem place_row {w : World} {M F F' : Nat → Prop} {g : Gh} {e : TypeId} {xs ts : List Int} {k cap q : Nat} {cur : Array Value} {os : Array Obj} (hl : ts.length = xs.length) (hh : w.heap[k]? = some (.cells cur e (0, 0))) (h1 : cap ≤ cur.size) (h2 : xs.length ≤ cap) :
    (grow (putRow (Value.int .i64) (Sort.ahead w q) k 0 ts.toArray) os).heap[k]? = some (.cells (putCells (Value.int .i64) 0 ts.toArray cur) e (0, 0)) ∧ cap ≤ (putCells (Value.int .i64) 0 ts.toArray cur).size ∧
      ∀ i, i < ts.length → (putCells (Value.int .i64) 0 ts.toArray cur)[i]? = some (.int .i64 (ts.getD i 0)) := by
  refine ⟨heap_sortedI _ hh, by simp [putCells, h1], fun i hi => ?_⟩
  have h8 := take_putCellsI cur ts (by omega)
  have h9 : ((putCells (Value.int .i64) 0 ts.toArray cur).toList.take ts.length)[i]? = (ts.map (Value.int .i64))[i]? := by rw [h8]
  rw [List.getElem?_take_of_lt hi] at h9
  rw [← Array.getElem?_toList, h9, List.getElem?_map, List.getElem?_eq_getElem hi, List.getD_eq_getElem?_getD, List.getElem?_eq_getElem hi]
  rfl

open Go.Sort in
theorem place_frame {w : World} {G : Nat → Prop} {ts : List Int} {k q : Nat} {os : Array Obj} (hk : G k) : Frame0 w (grow (putRow (Value.int .i64) (Sort.ahead w q) k 0 ts.toArray) os) G := by
  have h := grownBy_sortedI (w := w) (g := k) (n := q) (os := os) ts.toArray
  obtain ⟨h1, h2, h3, h4, h5⟩ := h
  refine ⟨h1, h2, h3, h4, fun k' hk' hn => h5 k' hk' fun e => ?_⟩
  cases e
  exact hn hk

theorem holds_row {w : World} {M F : Nat → Prop} {e : TypeId} {xs : List Int} {k cap : Nat} {cur : Array Value} (hh : w.heap[k]? = some (.cells cur e (0, 0))) (h1 : cap ≤ cur.size) (h2 : xs.length ≤ cap) (h3 : ∀ i, i < (SC.ints .i64 xs).len → ∃ u, cur[i]? = some u ∧ ElR w M F (.ints .i64 xs) i u) :
    Sort.Holds (Value.int .i64) w k 0 xs.toArray := by
  refine holds_of_blockI hh ?_
  apply List.ext_getElem?
  intro i
  by_cases hi : i < xs.length
  · obtain ⟨u, hu, he⟩ := h3 i hi
    simp only [ElR] at he
    rw [List.getElem?_take_of_lt hi, Array.getElem?_toList, hu, he, List.getElem?_map, List.getElem?_eq_getElem hi, List.getD_eq_getElem?_getD, List.getElem?_eq_getElem hi]
    rfl
  · rw [List.getElem?_take_eq_none (by omega), List.getElem?_eq_none (by simp; omega)]

open Go.Sort in
/-- A function that writes a row's elements in their place. -/
theorem ARuns_place {P : Program} {f : FuncId} {e : TypeId} (hc : callable P f = true) {xs ts : List Int} {n : Nat} (hn : n = xs.length) (hl : ts.length = xs.length)
    (h1 : ∀ (blk cap : Nat) (w : World), Sort.Holds (Value.int .i64) w blk 0 xs.toArray → blk < w.heap.size →
      Calls P f #[.slice (some ⟨blk, 0, none⟩) xs.length cap] w fun r w' => r = .returned (.tuple #[]) ∧ ∃ n os, w' = grow (putRow (Value.int .i64) (Sort.ahead w n) blk 0 ts.toArray) os)
    (h2 : xs.length = 0 → ∀ (p : Option Addr) (cap : Nat) (w : World), Calls P f #[.slice p 0 cap] w fun r w' => r = .returned (.tuple #[]) ∧ w' = w) :
    ARuns P f [.ref 0 n] [.row e (.ints .i64 xs)] (.tup []) [.row e (.ints .i64 ts)] := by
  subst hn
  refine ⟨hc, fun w vals F0 g hF hB hE hR _ => ?_⟩
  simp only [RelL] at hR
  obtain ⟨v, _, rfl, hv, rfl⟩ := hR
  simp only [Rel] at hv
  obtain ⟨a, cap0, rfl⟩ := g.one _ _ _ hv
  by_cases h : 0 < xs.length
  · have h0 := hB 0
    obtain ⟨b1, b2, b3⟩ := h0
    rcases b3 with ⟨hz, _⟩ | ⟨k, cap, cur, hg, hh, a1, a2, a3, a4, a5⟩
    · simp only [SC.len] at hz; omega
    · simp only [SC.len] at hg a2 b2
      rw [hg] at hv
      cases hv
      refine (h1 k cap0 w (holds_row hh a1 a2 a5) (lt_of_heap hh)).mono fun r w' hr => ?_
      obtain ⟨rfl, q, os, rfl⟩ := hr
      have hM : Mut g (getB [.row e (.ints .i64 xs)]) k := ⟨0, by simp only [AliveB, getB, AliveX, SC.len]; exact ⟨cap0, hg⟩⟩
      obtain ⟨p1, p2, p3⟩ := place_row (M := fun _ => False) (F := F0) (F' := F0) (g := g) (q := q) (os := os) hl hh a1 a2
      have same : ∀ b k, AliveB g (getB [.row e (.ints .i64 ts)]) b k ↔ AliveB g (getB [.row e (.ints .i64 xs)]) b k := fun b k => by
        cases b with
        | zero => simp only [AliveB, getB, AliveX, SC.len, hl]
        | succ b => simp only [AliveB, getB_one]
      refine ⟨_, g, rfl, place_frame hM, g.le_refl, fun b => ?_, fun b b' k h1 h2 => hE b b' k ((same _ _).1 h1) ((same _ _).1 h2), fun b k hk => .inl ⟨b, (same _ _).1 hk⟩, by simp only [Rel]; exact ⟨[], rfl, rfl⟩⟩
      cases b with
      | succ b => rw [getB_one]; have := hB (b + 1); rw [getB_one] at this; exact this
      | zero =>
        refine ⟨b1, fun n hn => b2 n (by simp only [SC.len] at hn; omega), .inr ⟨k, cap0, _, by simp only [SC.len, hl]; exact hg, p1, p2, by simp only [SC.len]; omega, a3, .inl a4, fun i hi => ?_⟩⟩
        simp only [SC.len] at hi
        exact ⟨_, p3 i hi, by simp only [ElR]⟩
  · have h0 : xs.length = 0 := by omega
    have e1 : xs = [] := List.length_eq_zero_iff.1 h0
    have e2 : ts = [] := List.length_eq_zero_iff.1 (by omega)
    subst e1 e2
    refine (h2 rfl a cap0 w).mono fun r w' hr => ?_
    obtain ⟨rfl, rfl⟩ := hr
    exact ⟨_, g, rfl, ⟨rfl, rfl, rfl, Nat.le_refl _, fun _ _ _ => rfl⟩, g.le_refl, fun b => (hB b).noargs fun k hk => .inl hk, hE, fun b k hk => .inl ⟨b, hk⟩, by simp only [Rel]; exact ⟨[], rfl, rfl⟩⟩

open Go.Sort in
theorem ARuns_compact {P : Program} {f : FuncId} {e : TypeId} (hc : callable P f = true)
    (h1 : ∀ (blk off cap : Nat) (zs : List Int) (w : World), Sort.Holds (Value.int .i64) w blk off zs.toArray → zs.length ≤ 9223372036854775807 → zs.length ≤ cap →
      Calls P f #[.slice (some ⟨blk, off, none⟩) zs.length cap] w fun r w' => r = .returned (.slice (some ⟨blk, off, none⟩) (Lib.compact zs).length cap) ∧ ∃ q, w' = putRow (Value.int .i64) (Sort.ahead w q) blk off (Lib.compact zs ++ List.replicate (zs.length - (Lib.compact zs).length) 0).toArray)
    (h2 : ∀ (a : Option Addr) (cap : Nat) (w : World), Calls P f #[.slice a 0 cap] w fun r w' => r = .returned (.slice a 0 cap) ∧ w' = w)
    {xs : List Int} {n : Nat} (hn : n = xs.length) (hx : xs.length ≤ 1099511627776) :
    ARuns P f [.ref 0 n] [.row e (.ints .i64 xs)] (.ref 1 (Lib.compact xs).length) [.gone, .row e (.ints .i64 (Lib.compact xs))] := by
  subst hn
  have hle : (Lib.compact xs).length ≤ xs.length := Lib.compact_length_le xs
  refine ⟨hc, fun w vals F0 g hF hB hE hR _ => ?_⟩
  simp only [RelL] at hR
  obtain ⟨v, _, rfl, hv, rfl⟩ := hR
  simp only [Rel] at hv
  obtain ⟨a, cap0, rfl⟩ := g.one _ _ _ hv
  have h1n : g.bb 1 = none ∧ ∀ n, g.gh 1 n = none := hB 1
  have h2n : ∀ b, g.bb (b + 2) = none ∧ ∀ n, g.gh (b + 2) n = none := fun b => by have := hB (b + 2); cases b <;> exact this
  obtain ⟨b1, b2, b3⟩ := hB 0
  simp only [SC.len] at b2 b3
  -- whatever the world is like: block 1 is the row now
  have fin : ∀ (w' : World) (ad : Option Addr) (cap : Nat), Frame0 w w' (Mut g (getB [.row e (.ints .i64 xs)])) →
      (((Lib.compact xs).length = 0 ∧ ad = none ∧ cap = 0) ∨ ∃ k cur, ad = some ⟨k, 0, none⟩ ∧ w'.heap[k]? = some (.cells cur e (0, 0)) ∧ cap ≤ cur.size ∧ (Lib.compact xs).length ≤ cap ∧ cap ≤ maxLen ∧ F0 k ∧ Mut g (getB [.row e (.ints .i64 xs)]) k ∧
        ∀ i, i < (Lib.compact xs).length → cur[i]? = some (.int .i64 ((Lib.compact xs).getD i 0))) →
      ∃ v' g', Ending.returned (.slice ad (Lib.compact xs).length cap) = .returned v' ∧ Frame0 w w' (Mut g (getB [.row e (.ints .i64 xs)])) ∧ Gh.le g g' ∧
        (∀ b, BxR w' (Mut g' (getB [.gone, .row e (.ints .i64 (Lib.compact xs))])) (fun k => F0 k ∨ w.heap.size ≤ k) g' [.slice a xs.length cap0] b (getB [.gone, .row e (.ints .i64 (Lib.compact xs))] b)) ∧
        (∀ b b' k, AliveB g' (getB [.gone, .row e (.ints .i64 (Lib.compact xs))]) b k → AliveB g' (getB [.gone, .row e (.ints .i64 (Lib.compact xs))]) b' k → b = b') ∧
        (∀ b k, AliveB g' (getB [.gone, .row e (.ints .i64 (Lib.compact xs))]) b k → Mut g (getB [.row e (.ints .i64 xs)]) k ∨ w.heap.size ≤ k) ∧
        Rel w' (Mut g' (getB [.gone, .row e (.ints .i64 (Lib.compact xs))])) (fun k => F0 k ∨ w.heap.size ≤ k) g' [.slice a xs.length cap0] (.ref 1 (Lib.compact xs).length) v' := by
    intro w' ad cap hfr hcase
    have key : ∀ b k, AliveB (g.setR 1 (Lib.compact xs).length (.slice ad (Lib.compact xs).length cap)) (getB [.gone, .row e (.ints .i64 (Lib.compact xs))]) b k → b = 1 ∧ Mut g (getB [.row e (.ints .i64 xs)]) k := by
      intro b k hk
      match b with
      | 0 => exact hk.elim
      | b + 2 => cases b <;> exact hk.elim
      | 1 =>
        refine ⟨rfl, ?_⟩
        simp only [AliveB, getB, AliveX, SC.len, Gh.setR, upd_same] at hk
        obtain ⟨c, hk⟩ := hk
        cases hk
        rcases hcase with ⟨_, h, _⟩ | ⟨k', cur, h, _, _, _, _, _, hm, _⟩
        · cases h
        · cases h; exact hm
    refine ⟨_, g.setR 1 (Lib.compact xs).length (.slice ad (Lib.compact xs).length cap), rfl, hfr, ⟨fun _ _ h => h, fun b n u h => ?_⟩, fun b => ?_, fun b b' k h1 h2 => by rw [(key b k h1).1, (key b' k h2).1], fun b k h => .inl (key b k h).2, by simp only [Rel, Gh.setR, upd_same]⟩
    · simp only [Gh.setR]
      by_cases e1 : b = 1
      · subst e1; rw [h1n.2 n] at h; cases h
      · rw [upd_other _ _ e1]; exact h
    · match b with
      | 0 => trivial
      | b + 2 =>
        have e1 : getB [Bx.gone, .row e (.ints .i64 (Lib.compact xs))] (b + 2) = .none := by cases b <;> rfl
        rw [e1]
        refine ⟨(h2n b).1, fun n => ?_⟩
        simp only [Gh.setR]
        rw [upd_other _ _ (by omega)]
        exact (h2n b).2 n
      | 1 =>
        refine ⟨h1n.1, fun n hn => ?_, ?_⟩
        · simp only [SC.len] at hn
          simp only [Gh.setR, upd_same]
          rw [upd_other _ _ (by omega)]
          exact h1n.2 n
        · rcases hcase with ⟨h0, rfl, rfl⟩ | ⟨k, cur, rfl, q1, q2, q3, q4, q5, _, q6⟩
          · exact .inl ⟨h0, by simp only [Gh.setR, upd_same, h0]⟩
          · exact .inr ⟨k, cap, cur, by simp only [SC.len, Gh.setR, upd_same], q1, q2, q3, q4, .inl q5, fun i hi => ⟨_, q6 i hi, by simp only [ElR]⟩⟩
  by_cases h : 0 < xs.length
  · rcases b3 with ⟨hz, _⟩ | ⟨k, cap, cur, hg, hh, a1, a2, a3, a4, a5⟩
    · omega
    · rw [hg] at hv
      cases hv
      refine (h1 k 0 cap0 xs w (holds_row hh a1 a2 a5) (by omega) a2).mono fun r w' hr => ?_
      obtain ⟨rfl, q, rfl⟩ := hr
      have hM : Mut g (getB [.row e (.ints .i64 xs)]) k := ⟨0, by simp only [AliveB, getB, AliveX, SC.len]; exact ⟨cap0, hg⟩⟩
      have hl : (Lib.compact xs ++ List.replicate (xs.length - (Lib.compact xs).length) 0).length = xs.length := by simp; omega
      obtain ⟨p1, p2, p3⟩ := place_row (M := fun _ => False) (F := F0) (F' := F0) (g := g) (q := q) (os := #[]) hl hh a1 a2
      have hfr := place_frame (w := w) (G := Mut g (getB [.row e (.ints .i64 xs)])) (ts := Lib.compact xs ++ List.replicate (xs.length - (Lib.compact xs).length) 0) (q := q) (os := #[]) hM
      rw [grow_empty] at p1 hfr
      refine fin _ _ _ hfr (.inr ⟨k, _, rfl, p1, p2, by omega, a3, a4, hM, fun i hi => ?_⟩)
      rw [p3 i (by rw [hl]; omega)]
      congr 2
      simp [List.getD_eq_getElem?_getD, List.getElem?_append_left hi]
  · have h0 : xs.length = 0 := by omega
    have e1 : xs = [] := List.length_eq_zero_iff.1 h0
    subst e1
    have hc0 : (Lib.compact ([] : List Int)).length = 0 := by simpa using hle
    refine (h2 a cap0 w).mono fun r w' hr => ?_
    obtain ⟨rfl, rfl⟩ := hr
    have hfr : Frame0 w' w' (Mut g (getB [.row e (.ints .i64 [])])) := ⟨rfl, rfl, rfl, Nat.le_refl _, fun _ _ _ => rfl⟩
    have := fin w' a cap0 hfr (by
      rcases b3 with ⟨_, hz⟩ | ⟨k, cap, cur, hg, hh, a1, a2, a3, a4, a5⟩
      · rw [show ([] : List Int).length = 0 from rfl, hz] at hv
        cases hv
        exact .inl ⟨hc0, rfl, rfl⟩
      · rw [hg] at hv
        cases hv
        exact .inr ⟨k, cur, rfl, hh, a1, by omega, a3, a4, ⟨0, by simp only [AliveB, getB, AliveX, SC.len]; exact ⟨cap0, hg⟩⟩, fun i hi => by omega⟩)
    rw [hc0] at this
    exact this
end AM
end Go.Proofs.YtbookhehpebcmaaGreatDoor
