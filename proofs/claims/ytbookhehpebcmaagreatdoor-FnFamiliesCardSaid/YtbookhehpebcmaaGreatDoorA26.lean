/-
  An abstract machine over the kit's Code.wp, and its soundness: part 26, regions in any order: reckoned in the text's order, with what each one looks at.
-/
import Derived.Test.YtbookhehpebcmaaGreatDoorA25
namespace Go.Proofs.YtbookhehpebcmaaGreatDoor
namespace AM
set_option linter.unusedVariables false
set_option linter.unusedSimpArgs false

abbrev TrL := List (Nat × List Nat × List Nat)

def addTr (n : Nat) (u : List (Nat × Bx)) : List Nat → TrL → TrL
  | [], tr => tr
  | a :: r, tr => (n, u.map (·.1), a :: r) :: tr

/-- A truth is split where it comes up. -/
def splD (Y : AV → Prop) : AV → Prop
  | .bool b => (b = true → Y .tt) ∧ (b = false → Y .ff)
  | v => Y v

/-- Where truths are split: everywhere, or (for great functions) only where the next operation's guard looks. -/
def nextG : List Oper → Nat → Bool
  | [], _ => false
  | o :: _, n => match o.guard with
    | some g => if g.1 = n then true else false
    | none => false
theorem nextG_nil {n : Nat} : nextG [] n = false := id rfl
theorem nextG_none {n : Nat} {d : Option Nat} {op : Op} {t : TypeId} {p : String} {af : Array Edge} {r : List Oper} : nextG (⟨d, op, t, p, af, none⟩ :: r) n = false := id rfl
theorem nextG_some {n j : Nat} {w : Bool} {d : Option Nat} {op : Op} {t : TypeId} {p : String} {af : Array Edge} {r : List Oper} : nextG (⟨d, op, t, p, af, some (j, w)⟩ :: r) n = if j = n then true else false := id rfl
def splB (Γ : Gm) (rest : List Oper) (n : Nat) : Bool :=
  match Γ.lend 999999 with
  | [] => true
  | _ => nextG rest n
def splW (b : Bool) (Y : AV → Prop) (v : AV) : Prop :=
  match b with
  | true => splD Y v
  | false => Y v
theorem splW_t {Y : AV → Prop} {v : AV} : splW true Y v = splD Y v := id rfl
theorem splW_f {Y : AV → Prop} {v : AV} : splW false Y v = Y v := id rfl
def Gm.lazy (Γ : Gm) : Gm := Γ.add 999999 [1] fun _ _ _ => False
theorem Gm.lazy_ok {P : Program} {Γ : Gm} (h : Γ.ok P) : Γ.lazy.ok P := Gm.add_ok h fun _ _ _ h => h.elim

def gD (s : St) (Y N : St → Prop) : Bool → AV → Prop
  | true, .tt => Y s
  | true, .ff => N s
  | false, .tt => N s
  | false, .ff => Y s
  | _, .skip => N s
  | _, _ => False

def slotO (s : St) : Option Nat → AV
  | some d => getE s.env d
  | none => .undef

def aopsD (P : Program) (Γ : Gm) (all : List Oper) : List Oper → Nat → St → TrL → (St → TrL → Prop) → Prop
  | [], _, s, tr, K => K s tr
  | o :: rest, n, s, tr, K => match o.guard with
    | none => aop P Γ s.bx.length (evalE s.env) (getB s.bx) o.op fun v u a => splW (splB Γ rest n) (fun v => aopsD P Γ all rest (n + 1) (s.put o.dst v u) (addTr n u a tr) K) v
    | some g => gD s (fun s => aop P Γ s.bx.length (evalE s.env) (getB s.bx) o.op fun v u a => splW (splB Γ rest n) (fun v => aopsD P Γ all rest (n + 1) (s.put o.dst v u) (addTr n u a tr) K) v)
        (fun s => aopsD P Γ all rest (n + 1) (s.put o.dst .skip []) tr K) g.2 (slotO s (nth all g.1))

def contD (P : Program) (Γ : Gm) (all rest : List Oper) (n : Nat) (s : St) (dst : Option Nat) (u : List (Nat × Bx)) (a : List Nat) (tr : TrL) (K : St → TrL → Prop) : AV → Prop :=
  fun v => aopsD P Γ all rest (n + 1) (s.put dst v u) (addTr n u a tr) K
def kontD (P : Program) (Γ : Gm) (all rest : List Oper) (n : Nat) (s : St) (dst : Option Nat) (tr : TrL) (K : St → TrL → Prop) (b : Bool) : Kt :=
  fun v u a => splW b (contD P Γ all rest n s dst u a tr K) v
def yesD (P : Program) (Γ : Gm) (all rest : List Oper) (op : Op) (n : Nat) (dst : Option Nat) (tr : TrL) (K : St → TrL → Prop) : St → Prop :=
  fun s => aop P Γ s.bx.length (evalE s.env) (getB s.bx) op (kontD P Γ all rest n s dst tr K (splB Γ rest n))
def noD (P : Program) (Γ : Gm) (all rest : List Oper) (n : Nat) (dst : Option Nat) (tr : TrL) (K : St → TrL → Prop) : St → Prop :=
  fun s => aopsD P Γ all rest (n + 1) (s.put dst .skip []) tr K

section
variable (P : Program) (Γ : Gm) (all rest : List Oper) (n : Nat) (s : St) (tr : TrL) (K : St → TrL → Prop) (dst : Option Nat) (op : Op) (t : TypeId) (p : String) (af : Array Edge)
theorem aopsD_nil : aopsD P Γ all [] n s tr K = K s tr := id rfl
theorem aopsD_plain : aopsD P Γ all (⟨dst, op, t, p, af, none⟩ :: rest) n s tr K = aop P Γ s.bx.length (evalE s.env) (getB s.bx) op (kontD P Γ all rest n s dst tr K (splB Γ rest n)) := id rfl
theorem aopsD_guard (j : Nat) (want : Bool) : aopsD P Γ all (⟨dst, op, t, p, af, some (j, want)⟩ :: rest) n s tr K =
    gD s (yesD P Γ all rest op n dst tr K) (noD P Γ all rest n dst tr K) want (slotO s (nth all j)) := id rfl
theorem kontD_at (b : Bool) (v : AV) (u : List (Nat × Bx)) (a : List Nat) : kontD P Γ all rest n s dst tr K b v u a = splW b (contD P Γ all rest n s dst u a tr K) v := id rfl
theorem contD_at (v : AV) (u : List (Nat × Bx)) (a : List Nat) : contD P Γ all rest n s dst u a tr K v = aopsD P Γ all rest (n + 1) (s.put dst v u) (addTr n u a tr) K := id rfl
theorem yesD_at : yesD P Γ all rest op n dst tr K s = aop P Γ s.bx.length (evalE s.env) (getB s.bx) op (kontD P Γ all rest n s dst tr K (splB Γ rest n)) := id rfl
theorem noD_at : noD P Γ all rest n dst tr K s = aopsD P Γ all rest (n + 1) (s.put dst .skip []) tr K := id rfl
end
section
variable {Y : AV → Prop}
theorem splD_bool {b : Bool} : splD Y (.bool b) = ((b = true → Y .tt) ∧ (b = false → Y .ff)) := id rfl
theorem splD_undef : splD Y .undef = Y .undef := id rfl
theorem splD_skip : splD Y .skip = Y .skip := id rfl
theorem splD_int {k : IntKind} {n : Int} : splD Y (.int k n) = Y (.int k n) := id rfl
theorem splD_tt : splD Y .tt = Y .tt := id rfl
theorem splD_ff : splD Y .ff = Y .ff := id rfl
theorem splD_str {x : ByteArray} : splD Y (.str x) = Y (.str x) := id rfl
theorem splD_nil : splD Y .nil = Y .nil := id rfl
theorem splD_sl {f : Option TypeId} {c : SC} : splD Y (.sl f c) = Y (.sl f c) := id rfl
theorem splD_prm {k : Nat} {c : SC} : splD Y (.prm k c) = Y (.prm k c) := id rfl
theorem splD_ref {b n : Nat} : splD Y (.ref b n) = Y (.ref b n) := id rfl
theorem splD_ptr {b n : Nat} : splD Y (.ptr b n) = Y (.ptr b n) := id rfl
theorem splD_rp {b n : Nat} {i : Int} : splD Y (.rp b n i) = Y (.rp b n i) := id rfl
theorem splD_ep {x : AV} : splD Y (.ep x) = Y (.ep x) := id rfl
theorem splD_pv {xs : List AV} {n : Nat} : splD Y (.pv xs n) = Y (.pv xs n) := id rfl
theorem splD_agg {xs : List AV} : splD Y (.agg xs) = Y (.agg xs) := id rfl
theorem splD_tup {xs : List AV} : splD Y (.tup xs) = Y (.tup xs) := id rfl
theorem splD_clo {f : FuncId} {xs : List AV} : splD Y (.clo f xs) = Y (.clo f xs) := id rfl
end
section
variable {s : St} {Y N : St → Prop}
theorem gD_tt : gD s Y N true .tt = Y s := id rfl
theorem gD_tf : gD s Y N true .ff = N s := id rfl
theorem gD_ft : gD s Y N false .tt = N s := id rfl
theorem gD_ff : gD s Y N false .ff = Y s := id rfl
theorem gD_ts : gD s Y N true .skip = N s := id rfl
theorem gD_fs : gD s Y N false .skip = N s := id rfl
theorem slotO_some {d : Nat} : slotO s (some d) = getE s.env d := id rfl
theorem addTr_nil {n : Nat} {u : List (Nat × Bx)} {tr : TrL} : addTr n u [] tr = tr := id rfl
theorem addTr_cons {n a : Nat} {r : List Nat} {u : List (Nat × Bx)} {tr : TrL} : addTr n u (a :: r) tr = (n, u.map (·.1), a :: r) :: tr := id rfl
end

/-! ### What was looked at, and what turned -/
def memQ (a : Nat) : List Nat → Prop → Prop
  | [], _ => True
  | b :: r, Q => if a = b then Q else memQ a r Q
def clash : List Nat → List Nat → Prop → Prop
  | [], _, _ => True
  | a :: w, ac, Q => memQ a ac Q ∧ clash w ac Q
def regC (l : List Oper) (i : Nat) (w : List Nat) : TrL → Prop
  | [] => True
  | (j, _, ac) :: r => (if i = j then True else clash w ac (ordB l i j = true)) ∧ regC l i w r
def regR (l : List Oper) (full : TrL) : TrL → Prop
  | [] => True
  | (i, w, _) :: r => regC l i w full ∧ regR l full r

section
variable {a b i j : Nat} {r w ac w' : List Nat} {Q : Prop} {l : List Oper} {full tr : TrL}
theorem memQ_nil : memQ a [] Q = True := id rfl
theorem memQ_cons : memQ a (b :: r) Q = if a = b then Q else memQ a r Q := id rfl
theorem clash_nil : clash [] ac Q = True := id rfl
theorem clash_cons : clash (a :: w) ac Q = (memQ a ac Q ∧ clash w ac Q) := id rfl
theorem regC_none : regC l i [] full = True := by
  induction full with
  | nil => rfl
  | cons p r ih => obtain ⟨j, _, ac⟩ := p; simp [regC, ih, clash]
theorem regC_nil : regC l i w [] = True := id rfl
theorem regC_cons : regC l i (a :: w) ((j, w', ac) :: tr) = ((if i = j then True else clash (a :: w) ac (ordB l i j = true)) ∧ regC l i (a :: w) tr) := id rfl
theorem regR_nil : regR l full [] = True := id rfl
theorem regR_cons : regR l full ((i, w, ac) :: tr) = (regC l i w full ∧ regR l full tr) := id rfl

theorem memQ_spec : ∀ {ac : List Nat}, memQ a ac Q → a ∈ ac → Q
  | [], _, h => by cases h
  | b :: r, hq, h => by
    simp only [memQ] at hq
    by_cases e : a = b
    · rwa [if_pos e] at hq
    · rw [if_neg e] at hq
      exact memQ_spec hq ((List.mem_cons.1 h).resolve_left e)
theorem clash_spec : ∀ {w : List Nat}, clash w ac Q → ∀ b ∈ w, b ∈ ac → Q
  | [], _, b, h, _ => by cases h
  | a :: w, hq, b, h, hb => by
    rcases List.mem_cons.1 h with rfl | h
    · exact memQ_spec hq.1 hb
    · exact clash_spec hq.2 b h hb
theorem regC_spec : ∀ {tr : TrL}, regC l i w tr → ∀ q ∈ tr, i ≠ q.1 → ∀ b ∈ w, b ∈ q.2.2 → ordB l i q.1 = true
  | [], _, q, h, _, _, _, _ => by cases h
  | (j, w', ac) :: r, hq, q, h, hne, b, hb, hb' => by
    rcases List.mem_cons.1 h with rfl | h
    · have := hq.1
      simp only at hne
      rw [if_neg hne] at this
      exact clash_spec this b hb hb'
    · exact regC_spec hq.2 q h hne b hb hb'
theorem regR_spec : ∀ {tr : TrL}, regR l full tr → ∀ p ∈ tr, ∀ q ∈ full, p.1 ≠ q.1 → ∀ b ∈ p.2.1, b ∈ q.2.2 → ordB l p.1 q.1 = true
  | [], _, p, h => by cases h
  | (i, w, ac) :: r, hq, p, h => by
    rcases List.mem_cons.1 h with rfl | h
    · exact fun q hq' hne b hb hb' => regC_spec hq.1 q hq' hne b hb hb'
    · exact regR_spec hq.2 p h
end

def trOf : Nat → Tr → TrL → TrL
  | _, [], tr => tr
  | n, p :: r, tr => trOf (n + 1) r (addTr n p.2.u p.2.ac tr)

theorem trOf_sub : ∀ {ps : Tr} {n : Nat} {tr : TrL}, ∀ q ∈ tr, q ∈ trOf n ps tr
  | [], _, _, q, h => h
  | p :: r, n, tr, q, h => by
    simp only [trOf]
    refine trOf_sub q ?_
    cases hp : p.2.ac <;> simp only [addTr]
    · exact h
    · exact List.mem_cons_of_mem _ h

theorem mem_trOf : ∀ {ps : Tr} {n k : Nat} {tr : TrL} {p : Oper × Eff}, ps[k]? = some p → p.2.ac ≠ [] → (n + k, p.2.u.map (·.1), p.2.ac) ∈ trOf n ps tr
  | [], n, k, tr, p, hp, _ => by simp at hp
  | q :: r, n, 0, tr, p, hp, h => by
    simp at hp; subst hp
    simp only [trOf]
    refine trOf_sub _ ?_
    cases hq : q.2.ac with
    | nil => exact absurd hq h
    | cons a t => simp only [addTr]; exact List.mem_cons_self
  | q :: r, n, k + 1, tr, p, hp, h => by
    simp only [trOf]
    have := mem_trOf (n := n + 1) (k := k) (tr := addTr n q.2.u q.2.ac tr) (p := p) (by simpa using hp) h
    rwa [show n + 1 + k = n + (k + 1) by omega] at this

theorem indep_of {ps : Tr} {l : List Oper} (h : regR l (trOf 0 ps []) (trOf 0 ps [])) (hu : ∀ p ∈ ps, ∀ b ∈ p.2.u.map (·.1), b ∈ p.2.ac) : Indep ps l := by
  intro i j p q hp hq hne b hb hb'
  have h1 := mem_trOf (n := 0) (tr := []) hp (fun e => by have := hu p (List.mem_of_getElem? hp) b hb; rw [e] at this; cases this)
  have h2 := mem_trOf (n := 0) (tr := []) hq (fun e => by rw [e] at hb'; cases hb')
  have := regR_spec h _ h1 _ h2 (by simpa using hne) b hb hb'
  simpa using this

theorem splD_spec {Y : AV → Prop} {v : AV} (h : splD Y v) : ∃ v', litR v v' ∧ Y v' := by
  cases v
  case bool b =>
    cases b
    · exact ⟨.ff, .inr (.inr ⟨rfl, rfl⟩), h.2 rfl⟩
    · exact ⟨.tt, .inr (.inl ⟨rfl, rfl⟩), h.1 rfl⟩
  all_goals exact ⟨_, .inl rfl, h⟩

theorem splW_spec {b : Bool} {Y : AV → Prop} {v : AV} (h : splW b Y v) : ∃ v', litR v v' ∧ Y v' := by
  cases b
  · exact ⟨v, .inl rfl, h⟩
  · exact splD_spec h

theorem appE_put {s : St} {o : Oper} {e : Eff} : ((s.put o.dst e.v e.u).sl, (s.put o.dst e.v e.u).bf) = appE o e (s.sl, s.bf) := by
  rw [St.put_sl, St.put_bf]; rfl

theorem aopsD_trace {P : Program} {Γ : Gm} (hΓ : Γ.ok P) {all : List Oper} : ∀ {l : List Oper} {n : Nat} {s : St} {tr : TrL} {K : St → TrL → Prop}, aopsD P Γ all l n s tr K →
    ∃ ps : Tr, l = ps.map (·.1) ∧ Facts P Γ.lend all ps (s.sl, s.bf) ∧ (∀ p ∈ ps, ∀ b ∈ p.2.u.map (·.1), b ∈ p.2.ac) ∧ ∃ s', K s' (trOf n ps tr) ∧ ∀ m, (s'.sl, s'.bf) = foldA ps (fun _ => true) m (s.sl, s.bf)
  | [], n, s, tr, K, h => ⟨[], rfl, trivial, by simp, s, h, fun _ => rfl⟩
  | o :: rest, n, s, tr, K, h => by
    have run : aop P Γ s.bx.length (evalE s.env) (getB s.bx) o.op (fun v u a => splW (splB Γ rest n) (fun v => aopsD P Γ all rest (n + 1) (s.put o.dst v u) (addTr n u a tr) K) v) → gOk all o s.sl true →
        ∃ ps : Tr, o :: rest = ps.map (·.1) ∧ Facts P Γ.lend all ps (s.sl, s.bf) ∧ (∀ p ∈ ps, ∀ b ∈ p.2.u.map (·.1), b ∈ p.2.ac) ∧ ∃ s', K s' (trOf n ps tr) ∧ ∀ m, (s'.sl, s'.bf) = foldA ps (fun _ => true) m (s.sl, s.bf) := by
      intro hop hg
      obtain ⟨v, u, ac, hk, hu, hl⟩ := aop_loc (aop_Gx hΓ hop)
      obtain ⟨v', hv, hk⟩ := splW_spec hk
      obtain ⟨ps, h1, h2, h3, s', h4, h5⟩ := aopsD_trace hΓ hk
      refine ⟨(o, ⟨true, s.bx.length, v, v', u, ac⟩) :: ps, by simp [← h1], ⟨⟨hg, .inl ⟨rfl, fun K hK => ?_, hv, hu, fun p _ hc => getB_none hc⟩⟩, ?_⟩, ?_, s', h4, fun m => ?_⟩
      · rw [evalE_eq] at hl
        exact hl _ (fun _ _ => rfl) K hK
      · rw [← appE_put (e := ⟨true, s.bx.length, v, v', u, ac⟩)]; exact h2
      · intro p hp b hb
        rcases List.mem_cons.1 hp with rfl | hp
        · obtain ⟨q, hq, rfl⟩ := List.mem_map.1 hb; exact hu q hq
        · exact h3 p hp b hb
      · simp only [foldA, if_true]
        rw [h5 (m + 1), ← appE_put (e := ⟨true, s.bx.length, v, v', u, ac⟩)]
    have pass : aopsD P Γ all rest (n + 1) (s.put o.dst .skip []) tr K → gOk all o s.sl false →
        ∃ ps : Tr, o :: rest = ps.map (·.1) ∧ Facts P Γ.lend all ps (s.sl, s.bf) ∧ (∀ p ∈ ps, ∀ b ∈ p.2.u.map (·.1), b ∈ p.2.ac) ∧ ∃ s', K s' (trOf n ps tr) ∧ ∀ m, (s'.sl, s'.bf) = foldA ps (fun _ => true) m (s.sl, s.bf) := by
      intro hk hg
      obtain ⟨ps, h1, h2, h3, s', h4, h5⟩ := aopsD_trace hΓ hk
      refine ⟨(o, ⟨false, 0, .skip, .skip, [], []⟩) :: ps, by simp [← h1], ⟨⟨hg, .inr ⟨rfl, rfl, rfl⟩⟩, ?_⟩, ?_, s', h4, fun m => ?_⟩
      · rw [← appE_put (e := ⟨false, 0, .skip, .skip, [], []⟩)]; exact h2
      · intro p hp b hb
        rcases List.mem_cons.1 hp with rfl | hp
        · cases hb
        · exact h3 p hp b hb
      · simp only [foldA, if_true]
        rw [h5 (m + 1), ← appE_put (e := ⟨false, 0, .skip, .skip, [], []⟩)]
    simp only [aopsD] at h
    split at h
    · rename_i hg
      exact run h (by simp [gOk, hg])
    · rename_i g hg
      obtain ⟨j, want⟩ := g
      simp only at h
      cases hn : nth all j with
      | none => rw [hn] at h; simp only [slotO] at h; cases want <;> exact h.elim
      | some d =>
        rw [hn] at h
        simp only [slotO] at h
        have mk : ∀ {run : Bool}, (((s.sl d) = .tt ∧ run = want) ∨ (s.sl d = .ff ∧ run = !want) ∨ (s.sl d = .skip ∧ run = false)) → gOk all o s.sl run := fun h => by
          unfold gOk; rw [hg]; exact ⟨d, hn, h⟩
        have hs : s.sl d = getE s.env d := rfl
        generalize hv : getE s.env d = v at h
        rw [hv] at hs
        unfold gD at h
        split at h
        · exact run h (mk (.inl ⟨hs, rfl⟩))
        · exact pass h (mk (.inr (.inl ⟨hs, rfl⟩)))
        · exact pass h (mk (.inl ⟨hs, rfl⟩))
        · exact run h (mk (.inr (.inl ⟨hs, rfl⟩)))
        · exact pass h (mk (.inr (.inr ⟨hs, rfl⟩)))
        · exact h.elim

theorem HoldsF.drew {C : Cx} {σ : Sg} {a : Act} {w : World} (h : HoldsF C σ a w) (n : Nat) : HoldsF C σ a { w with drawn := n } := by
  obtain ⟨g, h⟩ := h
  have hK : Keeps w (Mut g σ.2) C.F { w with drawn := n } (Mut g σ.2) C.F := ⟨Nat.le_refl _, fun _ _ _ => rfl, fun _ _ h => h, fun _ _ _ h => h⟩
  refine ⟨g, h.step hK (Gh.le_refl g) ⟨rfl, rfl, rfl, Nat.le_refl _, fun _ _ _ => rfl⟩ (fun b => ?_) h.excl fun b k ha => .inl ⟨b, ha⟩⟩
  exact (h.bxs b).mono hK (Gh.le_refl g) (fun _ h => h) (fun _ _ h => h) (fun _ _ _ h => h) (fun _ _ _ => rfl)

theorem cnt_le {L : Nat → Bool} : ∀ n, cnt L n ≤ n
  | 0 => Nat.le_refl _
  | n + 1 => by have := cnt_le (L := L) n; simp only [cnt]; split <;> omega

theorem region_draw {P : Program} {Γ : Gm} (hΓ : Γ.ok P) {C : Cx} {ops : Array Oper} {id : Nat} {K : St → Prop} {Q : Exit → Act → World → Prop} (hm : P.follows .mixedOrders = true) (hst : regSt ops.toList = true)
    (hdst : ∀ o ∈ ops.toList, ∀ d, o.dst = some d → d < C.N) {s : St} (h : aopsD P Γ ops.toList ops.toList 0 s [] fun s tr => regR ops.toList tr tr ∧ K s) (hQ : ∀ s a w, Holds C s a w → K s → Q .normal a w)
    {a : Act} {w : World} (hs : Holds C s a w) : (Code.region id ops true).wp P Q a w := by
  obtain ⟨ps, h1, h2, h3, s', ⟨h4, h6⟩, h5⟩ := aopsD_trace hΓ h
  have hf : (fun i => (Array.replicate ops.size false).getD i false) = fun _ => false := by
    funext i
    simp only [Array.getD_eq_getD_getElem?, Array.getElem?_replicate]
    split <;> rfl
  refine wp_region_any hm (reg_any h1 hst (indep_of h4 h3) h2 h3 hdst (fun a w h => hQ s' a w ?_ h6) _ _ (by simp) ?_ ?_ a _ ?_)
  · rw [← h5 0] at h; exact h
  · rw [hf]; intro j o _ hj; cases hj
  · exact cnt_le _
  · rw [hf, fold_none fun _ _ => rfl]; exact HoldsF.drew (HoldsF.of.1 hs) _

end AM
end Go.Proofs.YtbookhehpebcmaaGreatDoor
