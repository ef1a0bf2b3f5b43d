/- The abstract interpreter: regions that draw their order, the run in the text's order. -/
import Derived.Test.YtjijnkiojpajeaaGreatDoorAiQuiet
import Derived.Orders
set_option linter.unusedVariables false
set_option linter.unusedSimpArgs false
set_option linter.unusedSectionVars false
namespace Go.Ai
variable [Glob]

inductive Kd where
  | skip
  | quiet
  | loud
  | out
structure TS where
  k : Kd
  v : SV
  m : Mm
/-- A region that draws: what is given of it; dead: which operations a panic in the text's order leaves out. -/
structure Dx where
  P : Program
  rc : Rec
  fls : List (Nat × Flag)
  made : Made
  ops : Array Oper
  dead : Nat → Bool
  e0 : Env
  m0 : Mm
namespace Dx
def isL (D : Dx) (o : Oper) (i : Nat) : Bool := loud (aget D.fls i) o && (aget D.made i).isNone
noncomputable def op (D : Dx) (o : Oper) (i : Nat) (e : Env) (m : Mm) : TS :=
  match awanted D.ops e o with
  | some false => ⟨.skip, .v (.tup []), m⟩
  | some true => (match evalQ D.P D.rc D.fls D.made (opd e) m o i with
    | some (.val v m') => if D.isL o i then ⟨.loud, v, m'⟩ else ⟨.quiet, v, m⟩
    | _ => ⟨.out, J, m⟩)
  | none => ⟨.out, J, m⟩
noncomputable def tx (D : Dx) : Nat → Env × Mm
  | 0 => (D.e0, D.m0)
  | i + 1 => match D.ops[i]? with
    | some o => if D.dead i then D.tx i else (eput (D.tx i).1 o.dst (D.op o i (D.tx i).1 (D.tx i).2).v, (D.op o i (D.tx i).1 (D.tx i).2).m)
    | none => D.tx i
noncomputable def E (D : Dx) (i : Nat) : Env := (D.tx i).1
noncomputable def M (D : Dx) (i : Nat) : Mm := (D.tx i).2
noncomputable def K (D : Dx) (i : Nat) : Kd := match D.ops[i]? with | some o => if D.dead i then .out else (D.op o i (D.E i) (D.M i)).k | none => .out
noncomputable def V (D : Dx) (i : Nat) : SV := match D.ops[i]? with | some o => (D.op o i (D.E i) (D.M i)).v | none => J
noncomputable def at_ (D : Dx) (i : Nat) (m : Mm) : Option SV := match D.ops[i]? with | some o => valQ (evalQ D.P D.rc D.fls D.made (opd (D.E i)) m o i) | none => none
def b (D : Dx) (i j : Nat) : Bool := behind (Region.before D.ops) i j
structure Good (D : Dx) (i : Nat) : Prop where
  in_ : D.dead i = false → D.K i ≠ .out
  back : ∀ j, j < i → D.K j = .loud → D.K i = .quiet → D.b i j = true ∨ D.at_ i (D.M j) = some (D.V i)
  ahead : ∀ j, j < i → D.K j = .quiet → D.K i = .loud → D.b i j = true ∨ D.at_ j (D.M (i + 1)) = some (D.V j)
end Dx

theorem agree_spec {β : Type} {x : Option SV} {v : SV} {r : Option β} {y : β} (h : agree x v r = some y) : x = some v ∧ r = some y := by
  unfold agree at h
  split at h
  · split at h
    · rename_i e
      exact ⟨by rw [e], h⟩
    · cases h
  · cases h
section
variable {P : Program} {rec : Rec} {fls : List (Nat × Flag)} {made : Made} {bs : Array Nat}
theorem back_spec {β : Type} {q : QRec} {r : Option β} {y : β} : ∀ {hist : List (Nat × Mm)}, back P rec fls made bs q hist r = some y → r = some y ∧ ∀ h ∈ hist, behind bs q.i h.1 = true ∨ valQ (evalQ P rec fls made (opd q.e) h.2 q.o q.i) = some q.v
  | [], h => ⟨h, fun _ hh => by cases hh⟩
  | (j, m) :: hist, h => by
    simp only [back] at h
    split at h
    · rename_i hb
      obtain ⟨h1, h2⟩ := back_spec h
      refine ⟨h1, fun x hx => ?_⟩
      cases hx with
      | head => exact .inl hb
      | tail _ hx => exact h2 x hx
    · obtain ⟨h0, h⟩ := agree_spec h
      obtain ⟨h1, h2⟩ := back_spec h
      refine ⟨h1, fun x hx => ?_⟩
      cases hx with
      | head => exact .inr h0
      | tail _ hx => exact h2 x hx
theorem ahead_spec {β : Type} {j : Nat} {m : Mm} {r : Option β} {y : β} : ∀ {qs : List QRec}, ahead P rec fls made bs j m qs r = some y → r = some y ∧ ∀ q ∈ qs, behind bs j q.i = true ∨ valQ (evalQ P rec fls made (opd q.e) m q.o q.i) = some q.v
  | [], h => ⟨h, fun _ hh => by cases hh⟩
  | q :: qs, h => by
    simp only [ahead] at h
    split at h
    · rename_i hb
      obtain ⟨h1, h2⟩ := ahead_spec h
      refine ⟨h1, fun x hx => ?_⟩
      cases hx with
      | head => exact .inl hb
      | tail _ hx => exact h2 x hx
    · obtain ⟨h0, h⟩ := agree_spec h
      obtain ⟨h1, h2⟩ := ahead_spec h
      refine ⟨h1, fun x hx => ?_⟩
      cases hx with
      | head => exact .inr h0
      | tail _ hx => exact h2 x hx
end

namespace Dx
variable {D : Dx}
theorem tx_succ {i : Nat} {o : Oper} (ho : D.ops[i]? = some o) (hd : D.dead i = false) : D.tx (i + 1) = (eput (D.E i) o.dst (D.V i), (D.op o i (D.E i) (D.M i)).m) := by
  simp only [tx, ho, hd, V, E, M, Bool.false_eq_true, if_false]
theorem tx_dead {i : Nat} (hd : D.dead i = true) : D.tx (i + 1) = D.tx i := by
  simp only [tx, hd, if_true]
  split <;> rfl
theorem op_skip {o : Oper} {i : Nat} {e : Env} {m : Mm} (h : awanted D.ops e o = some false) : D.op o i e m = ⟨.skip, .v (.tup []), m⟩ := by simp only [op, h]
theorem op_val {o : Oper} {i : Nat} {e : Env} {m m' : Mm} {v : SV} (h : awanted D.ops e o = some true) (h2 : evalQ D.P D.rc D.fls D.made (opd e) m o i = some (.val v m')) : D.op o i e m = if D.isL o i then ⟨.loud, v, m'⟩ else ⟨.quiet, v, m⟩ := by simp only [op, h, h2]
/-- What a kind says. -/
theorem kind {i : Nat} {o : Oper} (ho : D.ops[i]? = some o) (hd : D.dead i = false) :
    (D.K i = .skip → awanted D.ops (D.E i) o = some false ∧ D.V i = .v (.tup []) ∧ D.M (i + 1) = D.M i) ∧
    (D.K i = .quiet → awanted D.ops (D.E i) o = some true ∧ D.isL o i = false ∧ (∃ m', evalQ D.P D.rc D.fls D.made (opd (D.E i)) (D.M i) o i = some (.val (D.V i) m')) ∧ D.M (i + 1) = D.M i) ∧
    (D.K i = .loud → awanted D.ops (D.E i) o = some true ∧ D.isL o i = true ∧ evalQ D.P D.rc D.fls D.made (opd (D.E i)) (D.M i) o i = some (.val (D.V i) (D.M (i + 1)))) := by
  have hM : D.M (i + 1) = (D.op o i (D.E i) (D.M i)).m := by rw [M, tx_succ ho hd]
  have hV : D.V i = (D.op o i (D.E i) (D.M i)).v := by simp only [V, ho]
  have hK : D.K i = (D.op o i (D.E i) (D.M i)).k := by simp only [K, ho, hd, Bool.false_eq_true, if_false]
  rw [hM, hV, hK]
  unfold op
  split
  · rename_i h
    exact ⟨fun _ => ⟨h, rfl, rfl⟩, fun x => (by cases x), fun x => (by cases x)⟩
  · rename_i h
    split
    · rename_i v m' h2
      split
      · rename_i h3
        exact ⟨fun x => (by cases x), fun x => (by cases x), fun _ => ⟨h, h3, h2⟩⟩
      · rename_i h3
        exact ⟨fun x => (by cases x), fun _ => ⟨h, by simpa using h3, ⟨m', h2⟩, rfl⟩, fun x => (by cases x)⟩
    · exact ⟨fun x => (by cases x), fun x => (by cases x), fun x => (by cases x)⟩
  · exact ⟨fun x => (by cases x), fun x => (by cases x), fun x => (by cases x)⟩
theorem M_step {i : Nat} (h : D.K i ≠ .loud) : D.M (i + 1) = D.M i := by
  cases hd : D.dead i with
  | true => rw [M, tx_dead hd, M]
  | false =>
    cases ho : D.ops[i]? with
    | none => simp only [M, tx, ho]
    | some o =>
      have hM : D.M (i + 1) = (D.op o i (D.E i) (D.M i)).m := by rw [M, tx_succ ho hd]
      have hK : D.K i = (D.op o i (D.E i) (D.M i)).k := by simp only [K, ho, hd, Bool.false_eq_true, if_false]
      rw [hK] at h
      rw [hM]
      revert h
      unfold op
      split
      · intro _; rfl
      · split
        · split
          · intro h; exact absurd rfl h
          · intro _; rfl
        · intro _; rfl
      · intro _; rfl
theorem M_const {i : Nat} : ∀ {j : Nat}, i ≤ j → (∀ k, i ≤ k → k < j → D.K k ≠ .loud) → D.M j = D.M i
  | 0, hij, _ => by rw [Nat.le_zero.1 hij]
  | j + 1, hij, h => by
    rcases Nat.lt_or_ge i (j + 1) with h1 | h1
    · rw [M_step (h j (by omega) (by omega)), M_const (j := j) (by omega) fun k hk hk' => h k hk (by omega)]
    · rw [show i = j + 1 from by omega]
theorem tx_congr {D' : Dx} (hD : D' = { D with dead := D'.dead }) : ∀ {i : Nat}, (∀ j, j < i → D'.dead j = D.dead j) → D'.tx i = D.tx i
  | 0, _ => by rw [hD]; rfl
  | i + 1, h => by
    have ih := tx_congr (i := i) hD fun j hj => h j (by omega)
    have hop : ∀ o e m, D'.op o i e m = D.op o i e m := fun o e m => by rw [hD]; rfl
    have hops : D'.ops = D.ops := by rw [hD]
    simp only [tx, hops, h i (by omega), ih, hop]
/-- Whose a slot's value is, in the text's order. -/
theorem E_get (hs : Srt D.e0) : ∀ {i : Nat}, Srt (D.E i) ∧ ∀ q ∈ D.E i, (∃ j o, j < i ∧ D.ops[j]? = some o ∧ D.dead j = false ∧ o.dst = some q.1 ∧ q.2 = D.V j ∧ ∀ j' o', j' < i → D.ops[j']? = some o' → D.dead j' = false → o'.dst = some q.1 → j' ≤ j) ∨ (q ∈ D.e0 ∧ ∀ j o, j < i → D.ops[j]? = some o → D.dead j = false → o.dst ≠ some q.1)
  | 0 => ⟨hs, fun q hq => .inr ⟨hq, fun j _ hj => by omega⟩⟩
  | i + 1 => by
    obtain ⟨h1, h2⟩ := E_get hs (i := i)
    have keep : D.tx (i + 1) = D.tx i → (∀ o, D.ops[i]? = some o → D.dead i = true) → Srt (D.E (i + 1)) ∧ ∀ q ∈ D.E (i + 1), (∃ j o, j < i + 1 ∧ D.ops[j]? = some o ∧ D.dead j = false ∧ o.dst = some q.1 ∧ q.2 = D.V j ∧ ∀ j' o', j' < i + 1 → D.ops[j']? = some o' → D.dead j' = false → o'.dst = some q.1 → j' ≤ j) ∨ (q ∈ D.e0 ∧ ∀ j o, j < i + 1 → D.ops[j]? = some o → D.dead j = false → o.dst ≠ some q.1) := by
      intro e hi
      have e' : D.E (i + 1) = D.E i := by rw [E, e, E]
      rw [e']
      refine ⟨h1, fun q hq => ?_⟩
      rcases h2 q hq with ⟨j, o, k1, k2, k3, k4, k5, k6⟩ | ⟨k1, k2⟩
      · refine .inl ⟨j, o, by omega, k2, k3, k4, k5, fun j' o' l1 l2 l3 l4 => ?_⟩
        rcases Nat.lt_or_ge j' i with l | l
        · exact k6 j' o' l l2 l3 l4
        · have : j' = i := by omega
          subst this
          rw [hi o' l2] at l3; cases l3
      · refine .inr ⟨k1, fun j o l1 l2 l3 => ?_⟩
        rcases Nat.lt_or_ge j i with l | l
        · exact k2 j o l l2 l3
        · have : j = i := by omega
          subst this
          rw [hi o l2] at l3; cases l3
    cases ho : D.ops[i]? with
    | none => exact keep (by simp only [tx, ho]) fun o h => (by cases h.symm.trans ho)
    | some o =>
      cases hd : D.dead i with
      | true => exact keep (tx_dead hd) fun _ _ => hd
      | false =>
        have e : D.E (i + 1) = eput (D.E i) o.dst (D.V i) := by rw [E, tx_succ ho hd]
        rw [e]
        cases hdst : o.dst with
        | none =>
          refine ⟨h1, fun q hq => ?_⟩
          rcases h2 q hq with ⟨j, o1, k1, k2, k3, k4, k5, k6⟩ | ⟨k1, k2⟩
          · refine .inl ⟨j, o1, by omega, k2, k3, k4, k5, fun j' o' l1 l2 l3 l4 => ?_⟩
            rcases Nat.lt_or_ge j' i with l | l
            · exact k6 j' o' l l2 l3 l4
            · have : j' = i := by omega
              subst this
              rw [ho] at l2; cases l2; rw [hdst] at l4; cases l4
          · refine .inr ⟨k1, fun j o1 l1 l2 l3 => ?_⟩
            rcases Nat.lt_or_ge j i with l | l
            · exact k2 j o1 l l2 l3
            · have : j = i := by omega
              subst this
              rw [ho] at l2; cases l2; rw [hdst]; simp
        | some d =>
          refine ⟨srt_aset h1, fun q hq => ?_⟩
          rcases mem_aset h1 hq with rfl | ⟨hq, hne⟩
          · exact .inl ⟨i, o, by omega, ho, hd, hdst, rfl, fun j' o' l1 _ _ _ => by omega⟩
          · rcases h2 q hq with ⟨j, o1, k1, k2, k3, k4, k5, k6⟩ | ⟨k1, k2⟩
            · refine .inl ⟨j, o1, by omega, k2, k3, k4, k5, fun j' o' l1 l2 l3 l4 => ?_⟩
              rcases Nat.lt_or_ge j' i with l | l
              · exact k6 j' o' l l2 l3 l4
              · have : j' = i := by omega
                subst this
                rw [ho] at l2; cases l2; rw [hdst] at l4; cases l4; exact absurd rfl hne
            · refine .inr ⟨k1, fun j o1 l1 l2 l3 => ?_⟩
              rcases Nat.lt_or_ge j i with l | l
              · exact k2 j o1 l l2 l3
              · have : j = i := by omega
                subst this
                rw [ho] at l2; cases l2; rw [hdst]; intro e; cases e; exact hne rfl
end Dx
end Go.Ai
/- The abstract interpreter: regions that draw their order, what the evaluator has looked at. -/
set_option linter.unusedVariables false
set_option linter.unusedSimpArgs false
set_option linter.unusedSectionVars false
namespace Go.Ai
variable [Glob]
def Lies (ops : Array Oper) (s : Nat) (l : List (Oper × Nat)) : Prop := ∀ k, l[k]? = (ops[s + k]?).map fun o => (o, s + k)
theorem Lies.head {ops : Array Oper} {s : Nat} {o : Oper} {i : Nat} {r : List (Oper × Nat)} (h : Lies ops s ((o, i) :: r)) : ops[s]? = some o ∧ i = s ∧ Lies ops (s + 1) r := by
  have h0 := h 0
  simp only [List.getElem?_cons_zero, Nat.add_zero] at h0
  cases ho : ops[s]? with
  | none => rw [ho] at h0; cases h0
  | some o' =>
    rw [ho] at h0
    cases h0
    refine ⟨rfl, rfl, fun k => ?_⟩
    have := h (k + 1)
    simp only [List.getElem?_cons_succ] at this
    rw [this, show s + (k + 1) = s + 1 + k from by omega]
theorem Lies.nil {ops : Array Oper} {s : Nat} (h : Lies ops s []) : ops.size ≤ s := by
  have h0 := h 0
  simp only [List.getElem?_nil, Nat.add_zero] at h0
  rcases Nat.lt_or_ge s ops.size with hlt | hge
  · rw [Array.getElem?_eq_getElem hlt] at h0; cases h0
  · exact hge
theorem Lies.zip (ops : Array Oper) : Lies ops 0 ops.toList.zipIdx := fun k => by simp [List.getElem?_zipIdx]
theorem valQ_eq {x : Option OR} {v : SV} (h : valQ x = some v) : ∃ m', x = some (.val v m') := by
  unfold valQ at h
  split at h
  · cases h; exact ⟨_, rfl⟩
  · cases h
namespace Dx
variable {D : Dx}
/-- Where the text's order comes to a panic. -/
structure Pan (D : Dx) (s : Nat) (ex : Ex) (ef : Env) (mf : Mm) (i : Nat) : Prop where
  le : s ≤ i
  lt : i < D.ops.size
  wants : ∀ o, D.ops[i]? = some o → awanted D.ops (D.E i) o = some true
  pans : ∃ v, ex = .pan v ∧ ∀ o, D.ops[i]? = some o → evalQ D.P D.rc D.fls D.made (opd (D.E i)) (D.M i) o i = some (.pan v mf)
  env : ef = dropAll (D.E i) D.ops.toList.zipIdx
  good : ∀ j, s ≤ j → j < i → D.Good j
  louds : ∀ j, j < i → D.K j = .loud → D.b i j = true
  rest : ∃ r hist, Lies D.ops (i + 1) r ∧ rest D.P D.rc D.fls D.made D.ops (Region.before D.ops) i hist r (D.E i) (D.M i) = some () ∧ ∀ j, j < i → D.K j = .loud → (j, D.M j) ∈ hist
theorem evalD_text (hdead : ∀ i, D.dead i = false) {ex : Ex} {ef : Env} {mf : Mm} : ∀ (l : List (Oper × Nat)) (s : Nat) (hist : List (Nat × Mm)) (qs : List QRec), Lies D.ops s l → s ≤ D.ops.size →
    evalD D.P D.rc D.fls D.made D.ops (Region.before D.ops) l (D.E s) (D.M s) hist qs = some (ex, ef, mf) →
    (∀ j, j < s → D.K j = .loud → (j, D.M j) ∈ hist) → (∀ j o, j < s → D.ops[j]? = some o → D.K j = .quiet → (⟨o, j, D.E j, D.V j⟩ : QRec) ∈ qs) →
    (ex = .normal ∧ ef = D.E D.ops.size ∧ mf = D.M D.ops.size ∧ ∀ i, s ≤ i → i < D.ops.size → D.Good i) ∨ ∃ i, Pan D s ex ef mf i
  | [], s, hist, qs, hl, hs, h, hh, hq => by
    simp only [evalD, Option.some.injEq, Prod.mk.injEq] at h
    obtain ⟨rfl, rfl, rfl⟩ := h
    have : s = D.ops.size := by have := hl.nil; omega
    subst this
    exact .inl ⟨rfl, rfl, rfl, fun i h1 h2 => by omega⟩
  | (o, s) :: r, s0, hist, qs, hl, hs, h, hh, hq => by
    obtain ⟨ho, rfl, hr⟩ := hl.head
    have hsz : s < D.ops.size := (Array.getElem?_eq_some_iff.1 ho).1
    have ht := tx_succ ho (hdead s)
    have hM : D.M (s + 1) = (D.op o s (D.E s) (D.M s)).m := by rw [M, ht]
    have hE : D.E (s + 1) = eput (D.E s) o.dst (D.V s) := by rw [E, ht]
    have hV : D.V s = (D.op o s (D.E s) (D.M s)).v := by simp only [V, ho]
    have hK : D.K s = (D.op o s (D.E s) (D.M s)).k := by simp only [K, ho, hdead s, Bool.false_eq_true, if_false]
    -- from here on
    have go : D.Good s → ∀ hist' qs', evalD D.P D.rc D.fls D.made D.ops (Region.before D.ops) r (D.E (s + 1)) (D.M (s + 1)) hist' qs' = some (ex, ef, mf) →
        (∀ j, j < s + 1 → D.K j = .loud → (j, D.M j) ∈ hist') → (∀ j o, j < s + 1 → D.ops[j]? = some o → D.K j = .quiet → (⟨o, j, D.E j, D.V j⟩ : QRec) ∈ qs') →
        (ex = .normal ∧ ef = D.E D.ops.size ∧ mf = D.M D.ops.size ∧ ∀ i, s ≤ i → i < D.ops.size → D.Good i) ∨ ∃ i, Pan D s ex ef mf i := by
      intro hg hist' qs' h' hh' hq'
      rcases evalD_text hdead r (s + 1) hist' qs' hr (by omega) h' hh' hq' with ⟨h1, h2, h3, h4⟩ | ⟨i, hp⟩
      · refine .inl ⟨h1, h2, h3, fun i k1 k2 => ?_⟩
        rcases Nat.lt_or_ge s i with k | k
        · exact h4 i k k2
        · rw [show i = s from by omega]; exact hg
      · refine .inr ⟨i, ⟨by have := hp.le; omega, hp.lt, hp.wants, hp.pans, hp.env, fun j k1 k2 => ?_, hp.louds, hp.rest⟩⟩
        rcases Nat.lt_or_ge s j with k | k
        · exact hp.good j k k2
        · rw [show j = s from by omega]; exact hg
    simp only [evalD, Option.bind_eq_some_iff] at h
    obtain ⟨bb, hb, h⟩ := h
    cases bb with
    | false =>
      have hop := op_skip (D := D) (i := s) (m := D.M s) hb
      rw [hop] at hM hV hK
      simp only at h hM hV hK
      refine go ⟨fun _ => by rw [hK]; simp, fun j _ _ e => (by rw [hK] at e; cases e), fun j _ _ e => (by rw [hK] at e; cases e)⟩ hist qs (by rw [hE, hV, hM]; exact h) (fun j hj e => ?_) (fun j o' hj ho' e => ?_)
      · rcases Nat.lt_or_ge j s with k | k
        · exact hh j k e
        · rw [show j = s from by omega, hK] at e; cases e
      · rcases Nat.lt_or_ge j s with k | k
        · exact hq j o' k ho' e
        · rw [show j = s from by omega, hK] at e; cases e
    | true =>
      simp only at h
      split at h
      · cases h
      · rename_i v m' he
        split at h
        · rename_i hall
          simp only [Option.map_eq_some_iff, Prod.mk.injEq] at h
          obtain ⟨u, hu, h1, h2, h3⟩ := h
          refine .inr ⟨s, Nat.le_refl _, hsz, fun o' ho' => (by rw [ho] at ho'; cases ho'; exact hb), ⟨v, h1.symm, fun o' ho' => (by rw [ho] at ho'; cases ho'; rw [← h3]; exact he)⟩, h2.symm, fun j _ _ => (by omega), fun j hj e => ?_, ⟨r, hist, hr, hu, hh⟩⟩
          exact List.all_eq_true.1 hall _ (hh j hj e)
        · cases h
      · rename_i v m' he
        have hop := op_val (D := D) hb he
        change (if (D.isL o s) = true then _ else _) = some _ at h
        split at h
        · rename_i hl
          rw [hop, if_pos hl] at hM hV hK
          simp only at hM hV hK
          obtain ⟨h1, h2⟩ := ahead_spec h
          refine go ⟨fun _ => by rw [hK]; simp, fun j _ _ e => (by rw [hK] at e; cases e), fun j hj e _ => ?_⟩ ((s, D.M s) :: hist) qs (by rw [hE, hV, hM]; exact h1) (fun j hj e => ?_) (fun j o' hj ho' e => ?_)
          · have hjo : ∃ o', D.ops[j]? = some o' := ⟨_, Array.getElem?_eq_getElem (by omega)⟩
            obtain ⟨o', ho'⟩ := hjo
            have := h2 _ (hq j o' hj ho' e)
            simp only [at_, ho', hM]
            exact this
          · rcases Nat.lt_or_ge j s with k | k
            · exact .tail _ (hh j k e)
            · rw [show j = s from by omega]; exact .head _
          · rcases Nat.lt_or_ge j s with k | k
            · exact hq j o' k ho' e
            · rw [show j = s from by omega, hK] at e; cases e
        · rename_i hl
          rw [hop, if_neg hl] at hM hV hK
          simp only at hM hV hK
          obtain ⟨h1, h2⟩ := back_spec h
          refine go ⟨fun _ => by rw [hK]; simp, fun j hj e _ => ?_, fun j _ _ e => (by rw [hK] at e; cases e)⟩ hist (⟨o, s, D.E s, v⟩ :: qs) (by rw [hE, hV, hM]; exact h1) (fun j hj e => ?_) (fun j o' hj ho' e => ?_)
          · have := h2 _ (hh j hj e)
            simp only [at_, ho, hV]
            exact this
          · rcases Nat.lt_or_ge j s with k | k
            · exact hh j k e
            · rw [show j = s from by omega, hK] at e; cases e
          · rcases Nat.lt_or_ge j s with k | k
            · exact .tail _ (hq j o' k ho' e)
            · have : j = s := by omega
              subst this
              rw [ho] at ho'; cases ho'
              rw [← hV]; exact .head _
/-- What the evaluator has looked at behind a panic. -/
theorem rest_text {i0 : Nat} (hdead : ∀ i, i0 < i → D.dead i = D.b i i0) : ∀ (l : List (Oper × Nat)) (s : Nat) (hist : List (Nat × Mm)), i0 < s → Lies D.ops s l → s ≤ D.ops.size → (∀ j, i0 ≤ j → j < s → D.K j ≠ .loud) →
    rest D.P D.rc D.fls D.made D.ops (Region.before D.ops) i0 hist l (D.E s) (D.M s) = some () → (∀ j, j < s → D.K j = .loud → (j, D.M j) ∈ hist) →
    ∀ i, s ≤ i → i < D.ops.size → D.Good i ∧ D.K i ≠ .loud
  | [], s, hist, h0, hl, hs, hno, h, hh => fun i h1 h2 => by have := hl.nil; omega
  | (o, s) :: r, s0, hist, h0, hl, hs, hno, h, hh => by
    obtain ⟨ho, rfl, hr⟩ := hl.head
    have hsz : s < D.ops.size := (Array.getElem?_eq_some_iff.1 ho).1
    have go : D.Good s ∧ D.K s ≠ .loud → rest D.P D.rc D.fls D.made D.ops (Region.before D.ops) i0 hist r (D.E (s + 1)) (D.M (s + 1)) = some () → ∀ i, s ≤ i → i < D.ops.size → D.Good i ∧ D.K i ≠ .loud := by
      intro hg h' i k1 k2
      rcases Nat.lt_or_ge s i with k | k
      · refine rest_text hdead r (s + 1) hist (by omega) hr (by omega) (fun j l1 l2 => ?_) h' (fun j hj e => ?_) i k k2
        · rcases Nat.lt_or_ge j s with l | l
          · exact hno j l1 l
          · rw [show j = s from by omega]; exact hg.2
        · rcases Nat.lt_or_ge j s with l | l
          · exact hh j l e
          · rw [show j = s from by omega] at e; exact absurd e hg.2
      · rw [show i = s from by omega]; exact hg
    simp only [rest] at h
    split at h
    · rename_i hb
      have hd : D.dead s = true := by rw [hdead s h0]; exact hb
      have hK : D.K s = .out := by simp only [K, ho, hd, if_true]
      refine go ⟨⟨fun e => (by rw [hd] at e; cases e), fun j _ _ e => (by rw [hK] at e; cases e), fun j _ _ e => (by rw [hK] at e; cases e)⟩, by rw [hK]; simp⟩ ?_
      simp only [E, M, tx_dead hd]
      exact h
    · rename_i hb
      have hd : D.dead s = false := by rw [hdead s h0]; exact Bool.eq_false_iff.2 hb
      have ht := tx_succ ho hd
      have hM : D.M (s + 1) = (D.op o s (D.E s) (D.M s)).m := by rw [M, ht]
      have hE : D.E (s + 1) = eput (D.E s) o.dst (D.V s) := by rw [E, ht]
      have hV : D.V s = (D.op o s (D.E s) (D.M s)).v := by simp only [V, ho]
      have hK : D.K s = (D.op o s (D.E s) (D.M s)).k := by simp only [K, ho, hd, Bool.false_eq_true, if_false]
      split at h
      · cases h
      · rename_i hl
        change ¬ (D.isL o s) = true at hl
        simp only [Option.bind_eq_some_iff] at h
        obtain ⟨bb, hb', h⟩ := h
        cases bb with
        | false =>
          have hop := op_skip (D := D) (i := s) (m := D.M s) hb'
          rw [hop] at hM hV hK
          simp only at h hM hV hK
          refine go ⟨⟨fun _ => by rw [hK]; simp, fun j _ _ e => (by rw [hK] at e; cases e), fun j _ _ e => (by rw [hK] at e; cases e)⟩, by rw [hK]; simp⟩ ?_
          rw [hE, hV, hM]; exact h
        | true =>
          simp only at h
          split at h
          · rename_i v m' he
            have hop := op_val (D := D) hb' he
            rw [hop, if_neg hl] at hM hV hK
            simp only at hM hV hK
            obtain ⟨h1, h2⟩ := back_spec h
            refine go ⟨⟨fun _ => by rw [hK]; simp, fun j hj e _ => ?_, fun j _ _ e => (by rw [hK] at e; cases e)⟩, by rw [hK]; simp⟩ (by rw [hE, hV, hM]; exact h1)
            have := h2 _ (hh j hj e)
            simp only [at_, ho, hV]
            exact this
          · cases h
end Dx
end Go.Ai
/- The abstract interpreter: regions that draw their order, one operation in any order. -/
set_option linter.unusedVariables false
set_option linter.unusedSimpArgs false
set_option linter.unusedSectionVars false
namespace Go.Ai
variable [Glob]
theorem SRelV.mono2 {c c' : Cx} (h : c.le c') {p p' : Pl} (hk : ∀ k b, p.rl k = some b → p'.rl k = some b) : ∀ {s : SV} {u : Value}, SRelV c p s u → SRelV c' p' s u
  | .v a, _, r => VRel.mono h a _ r
  | .l k off, _, ⟨b, h1, h2⟩ => ⟨b, hk k b h1, h2⟩
/-- It lies nowhere yet. -/
def Pend (c : Cx) (p : Pl) : SV → Prop
  | .l k _ => p.rl k = none
  | .v (.ptr id _ ep) => ep ≠ 0 ∧ ∃ n, c.hl id = some n ∧ ep ≤ n ∧ (n = ep → c.rh id = none)
  | _ => True
theorem Pend.next {c c' : Cx} {p p' : Pl} (hle : c.le c') (hk : Kept c c') (hrl : ∀ k, p'.rl k = p.rl k) {s : SV} (h : Pend c p s) : Pend c' p' s := by
  unfold Pend at *
  split
  · rename_i k _
    rw [hrl k]; exact h
  · rename_i id _ ep
    obtain ⟨h0, n, h1, h2, h3⟩ := h
    obtain ⟨n', g1, g2, _⟩ := hle.hl id n h1
    refine ⟨h0, n', g1, by omega, fun e => ?_⟩
    have : n = ep := by omega
    subst this
    subst e
    exact hk id n' h1 h0 (h3 rfl) g1
  · trivial
def Apart : SV → SV → Prop
  | .l k _, .l k' _ => k ≠ k'
  | .v (.ptr id _ _), .v (.ptr id' _ _) => id ≠ id'
  | _, _ => True
theorem Apart.symm {s s' : SV} (h : Apart s s') : Apart s' s := by
  unfold Apart at *
  split
  · exact h.symm
  · exact h.symm
  · trivial
section
variable {P : Program} {X : Ctl} {p : Pl} {w : World} {m : Mm} {a : Act} {o : Oper} {next : Act → World → Prop} {Q : Exit → Act → World → Prop}
theorem stands_eq {s v : SV} {cs : List AV} (h : stands m s cs = some v) : v = s ∧ ((∃ k, s = .l k 0 ∧ aget m.loc k = some (.cells cs)) ∨ ∃ id ep, s = .v (.ptr id 0 ep) ∧ m.hp[id]? = some cs) := by
  unfold stands at h
  split at h
  · rename_i k
    split at h
    · rename_i cs' hl
      obtain ⟨h1, h2⟩ := agree_spec h
      cases h1
      cases h2
      exact ⟨rfl, .inl ⟨k, rfl, hl⟩⟩
    · cases h
  · rename_i id ep
    simp only [Option.bind_eq_some_iff] at h
    obtain ⟨cs', hl, h⟩ := h
    obtain ⟨h1, h2⟩ := agree_spec h
    cases h1
    cases h2
    exact ⟨rfl, .inr ⟨id, ep, rfl, hl⟩⟩
  · cases h
/-- A variable that was made ahead comes to lie. -/
theorem op_made (hr : MRel X p w m) (lt : ∀ blk, X.Mut blk → blk < w.heap.size) {ty : TypeId} {z : AV} {s v : SV} {cs : List AV} (ho : o.op = .alloc ty) (hz : zeroT P ty = some z) (hcs : cellsOf z = some cs) (hst : stands m s cs = some v)
    (hep : ∀ id ep, s = .v (.ptr id 0 ep) → ep = cs.length) (hp : Pend (cx X p w m.hp) p s)
    (hn : ∀ p' w' u, Ext p w p' w' → (cx X p w m.hp).le (cx X p' w' m.hp) → MRel X p' w' m → (∀ k b, p.rl k = some b → p'.rl k = some b) → (∀ s', Apart s s' → Pend (cx X p w m.hp) p s' → Pend (cx X p' w' m.hp) p' s') →
      (∀ id, (∀ ep, s ≠ .v (.ptr id 0 ep)) → p'.rh id = p.rh id) → SRelV (cx X p' w' m.hp) p' v u → next (a.put o.dst u) w') : o.wp P a w next Q := by
  simp only [zeroT, Option.bind_eq_some_iff, Option.map_eq_some_iff] at hz
  obtain ⟨i, hi, z0, hz, rfl⟩ := hz
  have hrun : (execOp a.eval o).run P w = .ok (.value (.pointer (some ⟨w.heap.size, 0, none⟩))) (w.alloc (.cells z0.cells ty)) := by
    simp [execOp, ho, Instr.alloc, zeroValue, typeInfo, hi, hz, newVar, newRow]
  have hrel := cellsOf_rel hcs (VRel.toAV (cx X p w m.hp) z0)
  have hq := Quiet.alloc w (.cells z0.cells ty)
  unfold Oper.wp
  rw [hrun]
  show next (a.put o.dst _) _
  obtain ⟨rfl, hs⟩ := stands_eq hst
  rcases hs with ⟨k, rfl, hl⟩ | ⟨id, ep, rfl, hl⟩
  · have hle : (cx X p w m.hp).le (cx X (p.putL k w.heap.size) (w.alloc (.cells z0.cells ty)) m.hp) := (ext_newL hq (Nat.le_refl _)).le_same fun _ => rfl
    obtain ⟨h1, h2⟩ := hr.newL hq (k := k) (Nat.le_refl _) (by simp) lt (.cells cs) ⟨z0.cells, ty, heap_alloc_new w _, hrel.mono hle _ _⟩
    refine hn _ _ _ (ext_newL hq (Nat.le_refl _)) h2 ⟨h1.hp, h1.hlt, fun j b hj => ?_, h1.injh, h1.injl, h1.dis, h1.hsz, h1.lsz, h1.muts, h1.gl⟩ (fun j b hj => ?_) (fun s' ha hps => ?_) (fun _ _ => rfl) ⟨w.heap.size, by simp [Pl.putL], rfl⟩
    · have := h1.loc j b hj
      simp only [aget_aset] at this
      split at this
      · rename_i e
        subst e
        rw [hl]; exact this
      · exact this
    · simp only [Pl.putL]
      rw [if_neg]
      · exact hj
      · rintro rfl
        simp only [Pend] at hp
        rw [hp] at hj; cases hj
    · unfold Pend at *
      split
      · rename_i j _
        simp only [Apart] at ha
        simp only [Pl.putL]
        rw [if_neg (fun e => ha e.symm)]
        exact hps
      · exact hps
      · trivial
  · obtain rfl := hep id ep rfl
    obtain ⟨h0, n, hn1, hn2, hn3⟩ := hp
    simp only [cx, hl, Option.map_some, Option.some.injEq] at hn1
    have hrh : p.rh id = none := hn3 hn1.symm
    have hid := (List.getElem?_eq_some_iff.1 hl).1
    have hl' : ∀ i cs', m.hp[i]? = some cs' → ∃ cs'', m.hp[i]? = some cs'' ∧ cs'.length ≤ cs''.length ∧ (cs''.length = cs'.length → (p.putH id w.heap.size z0.cells.size).rh i = p.rh i ∨ (p.rh i = none ∧ cs'.length ≠ 0)) := fun i cs' h1 =>
      ⟨cs', h1, Nat.le_refl _, fun _ => by
        by_cases e : i = id
        · subst e
          rw [hl] at h1; cases h1
          exact .inr ⟨hrh, h0⟩
        · exact .inl (by simp only [Pl.putH]; rw [if_neg e])⟩
    obtain ⟨h1, h2⟩ := hr.newH hq (id := id) (b := w.heap.size) (z := z0.cells.size) (h' := m.hp) (Nat.le_refl _) (by simp) lt hid hl' (fun _ _ _ _ _ h _ => h) (Nat.le_refl _) fun cs' hcs' => by
      rw [hl] at hcs'; cases hcs'
      exact HpAt.fresh ty hrel ((ext_newH hq _ (Nat.le_refl _)).le hl')
    refine hn _ _ _ (ext_newH hq _ (Nat.le_refl _)) h2 h1 (fun _ _ h => h) (fun s' ha hps => ?_) (fun i hi => ?_) (rel_ptr_new (b := w.heap.size) (z := z0.cells.size) ?_ ?_)
    · unfold Pend at *
      split
      · exact hps
      · rename_i j _ ep'
        simp only [Apart] at ha
        obtain ⟨g0, g1, g2, g3, g4⟩ := hps
        refine ⟨g0, g1, g2, g3, fun e => ?_⟩
        simp only [cx, Pl.putH]
        rw [if_neg (fun e => ha e.symm)]
        exact g4 e
      · trivial
    · simp only [Pl.putH]
      rw [if_neg]
      rintro rfl
      exact hi _ rfl
    · simp [cx, hl]
    · simp [cx, Pl.putH]
end

/-! ### the invariant -/
def MadeAt (P : Program) (ops : Array Oper) (c00 : Cx) (i : Nat) (s : SV) (cs : List AV) : Prop :=
  (∃ o ty z, ops[i]? = some o ∧ o.op = .alloc ty ∧ o.guard = none ∧ zeroT P ty = some z ∧ cellsOf z = some cs) ∧ ((∃ k, s = .l k 0) ∨ ∃ id, s = .v (.ptr id 0 cs.length) ∧ c00.hl id = none)
structure DOk (D : Dx) (c00 : Cx) (n : Nat) : Prop where
  edge : ∀ j o e, D.ops[j]? = some o → e ∈ o.after.toList → Region.binds .any e = true → e.on < j
  site : ∀ j, j < D.ops.size → aget D.made j = none → isSiteF (aget D.fls j) = false
  pair : ∀ i j oi oj, i < j → D.ops[i]? = some oi → D.ops[j]? = some oj → (clash D.ops oi oj = true ∨ (D.isL oj j = true ∧ D.isL oi i = true)) → D.b j i = true
  good : ∀ i, i < D.ops.size → D.Good i
  srt : Srt D.e0
  dst : ∀ (i : Nat) (o : Oper), D.ops[i]? = some o → ∀ d, o.dst = some d → d < n
  made : ∀ i s cs, aget D.made i = some (s, cs) → MadeAt D.P D.ops c00 i s cs
  apart : ∀ i j s cs s' cs', i ≠ j → aget D.made i = some (s, cs) → aget D.made j = some (s', cs') → Apart s s'
structure DInv (D : Dx) (X : Ctl) (c00 : Cx) (p00 : Pl) (w00 : World) (n : Nat) (L : Nat → Prop) (t : Nat) (p : Pl) (w : World) (a : Act) : Prop where
  lt : ∀ i, L i → i < D.ops.size
  live : ∀ i, L i → D.dead i = false
  closed : ∀ i o e, L i → D.ops[i]? = some o → e ∈ o.after.toList → Region.binds .any e = true → L e.on
  ph : ∀ i, i < D.ops.size → D.K i = .loud → (L i ↔ i < t)
  r : MRel X p w (D.M t)
  xl : ∀ blk, X.Mut blk → blk < w.heap.size
  ext : Ext p00 w00 p w
  le : c00.le (cx X p w (D.M t).hp)
  kept : Kept c00 (cx X p w (D.M t).hp)
  sz : n ≤ a.tmps.size
  last : ∀ i o d, L i → D.ops[i]? = some o → o.dst = some d → (∀ j o', L j → D.ops[j]? = some o' → o'.dst = some d → j ≤ i) → SRelV (cx X p w (D.M t).hp) p (D.V i) (a.tmps.getD d undef)
  old : ∀ q ∈ D.e0, (∀ i o, L i → D.ops[i]? = some o → o.dst ≠ some q.1) → SRelV (cx X p w (D.M t).hp) p q.2 (a.tmps.getD q.1 undef)
  df : DRel (cx X p w (D.M t).hp) (D.M t).dfs a.defers
  pend : ∀ i s cs, aget D.made i = some (s, cs) → ¬ L i → Pend (cx X p w (D.M t).hp) p s
/-- An operation may run next. -/
structure Rdy (D : Dx) (L : Nat → Prop) (i : Nat) (o : Oper) : Prop where
  at_ : D.ops[i]? = some o
  new : ¬ L i
  edges : ∀ e ∈ o.after.toList, Region.binds .any e = true → L e.on
theorem mem_of_mem' {l : List Nat} {t : Nat} : mem l t = true ↔ t ∈ l := by
  unfold mem
  rw [List.any_eq_true]
  constructor
  · rintro ⟨x, hx, e⟩
    rw [Nat.eq_of_beq_eq_true e]; exact hx
  · intro h
    exact ⟨t, h, Nat.beq_refl t⟩
theorem clash_read {ops : Array Oper} {x y : Oper} {d : Nat} (hd : x.dst = some d) (h : d ∈ readsOf ops y) : clash ops x y = true := by
  unfold clash
  rw [hd]
  simp [mem_of_mem'.2 h]
theorem clash_read2 {ops : Array Oper} {x y : Oper} {d : Nat} (hd : y.dst = some d) (h : d ∈ readsOf ops x) : clash ops x y = true := by
  unfold clash
  rw [hd]
  simp [mem_of_mem'.2 h]
theorem clash_same {ops : Array Oper} {x y : Oper} {d : Nat} (h1 : x.dst = some d) (h2 : y.dst = some d) : clash ops x y = true := by
  unfold clash
  rw [h1, h2]
  simp
namespace Dx
variable {D : Dx} {X : Ctl} {c00 : Cx} {p00 : Pl} {w00 : World} {n : Nat} {L : Nat → Prop} {t : Nat} {p : Pl} {w : World} {a : Act}
theorem live_of {i : Nat} {k : Kd} (hk : k ≠ .out) (h : D.K i = k) : D.dead i = false := by
  cases hd : D.dead i with
  | false => rfl
  | true =>
    exfalso
    unfold K at h
    rw [hd] at h
    split at h
    · exact hk h.symm
    · exact hk h.symm
/-- What is behind something that has run has run. -/
theorem behind_listed (hI : DInv D X c00 p00 w00 n L t p w a) {j : Nat} : ∀ (i : Nat) (o : Oper), D.ops[i]? = some o → (∀ e ∈ o.after.toList, Region.binds .any e = true → L e.on) → D.b i j = true → L j := by
  intro i
  induction i using Nat.strongRecOn with
  | _ i ih =>
    intro o ho he hb
    obtain ⟨e, h1, h2, h3⟩ := before_spec ho hb
    have hL := he e h1 h2
    rcases h3 with h3 | ⟨h3, h4⟩
    · rw [← h3]; exact hL
    · have hlt := hI.lt _ hL
      exact ih e.on h3 _ (Array.getElem?_eq_getElem hlt) (fun e' he' hb' => hI.closed _ _ e' hL (Array.getElem?_eq_getElem hlt) he' hb') h4
theorem listed_behind (hI : DInv D X c00 p00 w00 n L t p w a) {i j : Nat} (hi : L i) (hb : D.b i j = true) : L j :=
  behind_listed hI i _ (Array.getElem?_eq_getElem (hI.lt i hi)) (fun e h1 h2 => hI.closed i _ e hi (Array.getElem?_eq_getElem (hI.lt i hi)) h1 h2) hb
theorem _root_.Go.Ai.Rdy.behind (hI : DInv D X c00 p00 w00 n L t p w a) {i j : Nat} {o : Oper} (hr : Rdy D L i o) (hb : D.b i j = true) : L j := behind_listed hI i o hr.at_ hr.edges hb
theorem first_loud (D : Dx) (t : Nat) : ∀ d, (∀ k, t ≤ k → k < t + d → D.K k ≠ .loud) ∨ ∃ j, t ≤ j ∧ j < t + d ∧ D.K j = .loud ∧ ∀ k, t ≤ k → k < j → D.K k ≠ .loud
  | 0 => .inl fun k h1 h2 => by omega
  | d + 1 => by
    rcases first_loud D t d with h | ⟨j, h1, h2, h3, h4⟩
    · by_cases hl : D.K (t + d) = .loud
      · exact .inr ⟨t + d, by omega, by omega, hl, h⟩
      · refine .inl fun k h1 h2 => ?_
        rcases Nat.lt_or_ge k (t + d) with g | g
        · exact h k h1 g
        · rw [show k = t + d from by omega]; exact hl
    · exact .inr ⟨j, h1, by omega, h3, h4⟩
theorem last_loud (D : Dx) (t : Nat) : ∀ d, (∀ k, t ≤ k → k < t + d → D.K k ≠ .loud) ∨ ∃ j, t ≤ j ∧ j < t + d ∧ D.K j = .loud ∧ ∀ k, j < k → k < t + d → D.K k ≠ .loud
  | 0 => .inl fun k h1 h2 => by omega
  | d + 1 => by
    by_cases hl : D.K (t + d) = .loud
    · exact .inr ⟨t + d, by omega, by omega, hl, fun k h1 h2 => by omega⟩
    · have key : ∀ k, k < t + (d + 1) → ¬ k < t + d → D.K k ≠ .loud := fun k h1 h2 => by
        rw [show k = t + d from by omega]; exact hl
      rcases last_loud D t d with h | ⟨j, h1, h2, h3, h4⟩
      · refine .inl fun k h1 h2 => ?_
        by_cases g : k < t + d
        · exact h k h1 g
        · exact key k h2 g
      · refine .inr ⟨j, h1, by omega, h3, fun k g1 g2 => ?_⟩
        by_cases g : k < t + d
        · exact h4 k g1 g
        · exact key k g2 g
theorem quiet_now (hD : DOk D c00 n) (hI : DInv D X c00 p00 w00 n L t p w a) {i : Nat} {o : Oper} (hr : Rdy D L i o) (hk : D.K i = .quiet) : D.at_ i (D.M t) = some (D.V i) := by
  have hi : i < D.ops.size := (Array.getElem?_eq_some_iff.1 hr.at_).1
  have hdead := live_of (by simp) hk
  have h0 : D.at_ i (D.M i) = some (D.V i) := by
    obtain ⟨_, _, ⟨m', h⟩, _⟩ := (kind hr.at_ hdead).2.1 hk
    simp only [at_, hr.at_, h, valQ]
  rcases Nat.lt_or_ge i t with h | h
  · rcases last_loud D i (t - i) with g | ⟨j, g1, g2, g3, g4⟩
    · rw [M_const (i := i) (j := t) (by omega) fun k k1 k2 => g k k1 (by omega)]; exact h0
    · have hne : j ≠ i := by rintro rfl; rw [hk] at g3; cases g3
      have hjs : j < D.ops.size := by
        rcases Nat.lt_or_ge j D.ops.size with l | l
        · exact l
        · simp only [K, Array.getElem?_eq_none l] at g3; cases g3
      rw [M_const (i := j + 1) (j := t) (by omega) fun k k1 k2 => g4 k (by omega) (by omega)]
      have hL : L j := (hI.ph j hjs g3).2 (by omega)
      rcases (hD.good j hjs).ahead i (by omega) hk g3 with l | l
      · exact absurd (listed_behind hI hL l) hr.new
      · exact l
  · rcases first_loud D t (i - t) with g | ⟨j, g1, g2, g3, g4⟩
    · rw [← M_const (i := t) (j := i) h fun k k1 k2 => g k k1 (by omega)]; exact h0
    · rw [← M_const (i := t) (j := j) g1 g4]
      rcases (hD.good i hi).back j (by omega) g3 hk with l | l
      · have := (hI.ph j (by omega) g3).1 (hr.behind hI l)
        omega
      · exact l
theorem loud_now (hD : DOk D c00 n) (hI : DInv D X c00 p00 w00 n L t p w a) {i : Nat} {o : Oper} (hr : Rdy D L i o) (hb : ∀ j, j < i → D.K j = .loud → D.b i j = true) (hti : D.K i = .loud ∨ ∀ j, i ≤ j → D.K j ≠ .loud) : D.M t = D.M i := by
  have hi : i < D.ops.size := (Array.getElem?_eq_some_iff.1 hr.at_).1
  have h1 : ∀ j, j < i → D.K j = .loud → j < t := fun j hj hl => (hI.ph j (by omega) hl).1 (hr.behind hI (hb j hj hl))
  rcases Nat.lt_or_ge i t with h | h
  · rcases hti with hl | hl
    · exact absurd ((hI.ph i hi hl).2 h) hr.new
    · exact M_const (by omega) fun k k1 _ => hl k k1
  · exact (M_const h fun k k1 k2 hl => by have := h1 k k2 hl; omega).symm
/-- What it looks at stands as in the text's order. -/
theorem look (hD : DOk D c00 n) (hI : DInv D X c00 p00 w00 n L t p w a) {i : Nat} {o : Oper} (hr : Rdy D L i o) :
    ERel (cx X p w (D.M t).hp) p n ((D.E i).filter fun q => mem (readsOf D.ops o) q.1) a := by
  have hi : i < D.ops.size := (Array.getElem?_eq_some_iff.1 hr.at_).1
  obtain ⟨hs, hg⟩ := E_get hD.srt (D := D) (i := i)
  refine ⟨hI.sz, List.Pairwise.filter _ hs, fun q hq => ?_⟩
  obtain ⟨hq, hm⟩ := List.mem_filter.1 hq
  have hm := mem_of_mem'.1 hm
  -- writers of the slot that have run are ahead of it in the text
  have hw : ∀ j o', L j → D.ops[j]? = some o' → o'.dst = some q.1 → j < i := by
    intro j o' hj ho' hd'
    rcases Nat.lt_trichotomy j i with h | h | h
    · exact h
    · subst h; exact absurd hj hr.new
    · have := hD.pair i j o o' h hr.at_ ho' (.inl (clash_read2 hd' hm))
      exact absurd (listed_behind hI hj this) hr.new
  rcases hg q hq with ⟨j, o', h1, h2, h3, h4, h5, h6⟩ | ⟨h1, h2⟩
  · have hL : L j := hr.behind hI (hD.pair j i o' o h1 h2 hr.at_ (.inl (clash_read h4 hm)))
    rw [h5]
    exact hI.last j o' q.1 hL h2 h4 fun j' o'' g1 g2 g3 => h6 j' o'' (hw j' o'' g1 g2 g3) g2 (hI.live j' g1) g3
  · exact hI.old q h1 fun j o' g1 g2 g3 => h2 j o' (hw j o' g1 g2 g3) g2 (hI.live j g1) g3
theorem aget_filter {β : Type} {f : Nat × β → Bool} {t : Nat} (h : ∀ v, f (t, v) = true) : ∀ {l : List (Nat × β)}, aget (l.filter f) t = aget l t
  | [] => rfl
  | (k, v) :: r => by
    by_cases hk : k = t
    · subst hk
      rw [List.filter_cons_of_pos (h v)]
      simp only [aget, Nat.beq_refl, cond]
    · cases hf : f (k, v) with
      | true => rw [List.filter_cons_of_pos hf]; simp only [aget, nbeq hk, cond]; exact aget_filter h
      | false => rw [List.filter_cons_of_neg (by simp [hf])]; simp only [aget, nbeq hk, cond]; exact aget_filter h
theorem opd_filter {e : Env} {o : Oper} {ops : Array Oper} : ∀ x ∈ o.op.operands.toList, opd (e.filter fun q => mem (readsOf ops o) q.1) x = opd e x := by
  intro x hx
  cases x with
  | tmp t =>
    have key : ∀ l : List Operand, Operand.tmp t ∈ l → t ∈ tmpsOf l := by
      intro l hl
      induction l with
      | nil => cases hl
      | cons y r ih =>
        cases hl with
        | head => exact .head _
        | tail _ hl =>
          have := ih hl
          cases y <;> first | exact .tail _ this | exact this
    have hm : mem (readsOf ops o) t = true := mem_of_mem'.2 (List.mem_append.2 (.inl (key _ hx)))
    simp only [opd, eget]
    rw [aget_filter fun v => hm]
  | _ => rfl
theorem awanted_filter {e : Env} {o : Oper} {ops : Array Oper} : awanted ops (e.filter fun q => mem (readsOf ops o) q.1) o = awanted ops e o := by
  unfold awanted
  split
  · rfl
  · rename_i j want hg
    cases hd : (ops[j]?).bind (·.dst) with
    | none => rfl
    | some d =>
      simp only
      have : eget (e.filter fun q => mem (readsOf ops o) q.1) d = eget e d := by
        have hm : mem (readsOf ops o) d = true := mem_of_mem'.2 (by
          unfold readsOf
          refine List.mem_append.2 (.inr ?_)
          rw [hg]
          simp only [hd]
          exact .head _)
        unfold eget
        rw [aget_filter fun v => hm]
      rw [this]
end Dx
end Go.Ai
/- The abstract interpreter: regions that draw their order, all orders. -/
set_option linter.unusedVariables false
set_option linter.unusedSimpArgs false
set_option linter.unusedSectionVars false
namespace Go.Ai
variable [Glob]
theorem put_get {a : Act} {ds : List Deferred} {dst : Option Tmp} {u : Value} {x : Nat} (h : dst = some x → x < a.tmps.size) :
    (({ a with defers := ds } : Act).put dst u).tmps.getD x undef = if dst = some x then u else a.tmps.getD x undef := by
  cases dst with
  | none => rfl
  | some d =>
    simp only [Act.put]
    by_cases e : d = x
    · subst e
      rw [if_pos rfl, Array.getD_eq_getD_getElem?, Array.getElem?_setIfInBounds, if_pos rfl, if_pos (h rfl)]
      rfl
    · rw [if_neg (fun h => e (Option.some.inj h)), Array.getD_eq_getD_getElem?, Array.getElem?_setIfInBounds, if_neg e, Array.getD_eq_getD_getElem?]
theorem put_size {a : Act} {dst : Option Tmp} {u : Value} : (a.put dst u).tmps.size = a.tmps.size := by
  cases dst <;> simp [Act.put]
theorem put_defers {a : Act} {dst : Option Tmp} {u : Value} : (a.put dst u).defers = a.defers := by
  cases dst <;> rfl
namespace Dx
variable {D : Dx} {X : Ctl} {c00 : Cx} {p00 : Pl} {w00 : World} {n : Nat} {L : Nat → Prop} {t t' : Nat} {p p' : Pl} {w w' : World} {a : Act}
theorem next (hD : DOk D c00 n) (hI : DInv D X c00 p00 w00 n L t p w a) {i : Nat} {o : Oper} (hr : Rdy D L i o) (hlive : D.dead i = false) {ds : List Deferred} {u : Value}
    (he : Ext p w p' w') (hle : (cx X p w (D.M t).hp).le (cx X p' w' (D.M t').hp)) (hm : MRel X p' w' (D.M t')) (hd : DRel (cx X p' w' (D.M t').hp) (D.M t').dfs ds)
    (hrl : ∀ k b, p.rl k = some b → p'.rl k = some b) (hv : SRelV (cx X p' w' (D.M t').hp) p' (D.V i) u) (hkept : Kept c00 (cx X p' w' (D.M t').hp))
    (hph : ∀ j, j < D.ops.size → D.K j = .loud → ((L j ∨ j = i) ↔ j < t'))
    (hpend : ∀ j s cs, aget D.made j = some (s, cs) → ¬ L j → j ≠ i → Pend (cx X p' w' (D.M t').hp) p' s) :
    DInv D X c00 p00 w00 n (fun j => L j ∨ j = i) t' p' w' (({ a with defers := ds } : Act).put o.dst u) := by
  have hi : i < D.ops.size := (Array.getElem?_eq_some_iff.1 hr.at_).1
  have hsz := hI.sz
  have hpg : ∀ x, (({ a with defers := ds } : Act).put o.dst u).tmps.getD x undef = if o.dst = some x then u else a.tmps.getD x undef := fun x => put_get fun h => Nat.lt_of_lt_of_le (hD.dst i o hr.at_ x h) hsz
  refine ⟨?_, ?_, ?_, hph, hm, fun blk hb => Nat.lt_of_lt_of_le (hI.xl blk hb) he.size, hI.ext.trans he, hI.le.trans hle, hkept, by rw [put_size]; exact hI.sz, ?_, ?_, by rw [put_defers]; exact hd, ?_⟩
  · rintro j (h | rfl)
    · exact hI.lt j h
    · exact hi
  · rintro j (h | rfl)
    · exact hI.live j h
    · exact hlive
  · rintro j o' e (h | rfl) ho' h1 h2
    · exact .inl (hI.closed j o' e h ho' h1 h2)
    · rw [hr.at_] at ho'
      cases ho'
      exact .inl (hr.edges e h1 h2)
  · rintro j o' d (h | rfl) ho' hd' hlast
    · have hne : o.dst ≠ some d := by
        intro hdi
        have hle' := hlast i o (.inr rfl) hr.at_ hdi
        have hlt : i < j := by
          rcases Nat.lt_or_ge i j with l | l
          · exact l
          · have : i = j := by omega
            subst this; exact absurd h hr.new
        have := hD.pair i j o o' hlt hr.at_ ho' (.inl (clash_same hdi hd'))
        exact hr.new (listed_behind hI h this)
      rw [hpg, if_neg hne]
      exact SRelV.mono2 hle hrl (hI.last j o' d h ho' hd' fun j' o'' g1 g2 g3 => hlast j' o'' (.inl g1) g2 g3)
    · rw [hr.at_] at ho'
      cases ho'
      rw [hpg, if_pos hd']
      exact hv
  · intro q hq hno
    rw [hpg, if_neg (hno i o (.inr rfl) hr.at_)]
    exact SRelV.mono2 hle hrl (hI.old q hq fun j o' g1 g2 => hno j o' (.inl g1) g2)
  · intro j s cs hj hnL
    exact hpend j s cs hj (fun h => hnL (.inl h)) fun e => hnL (.inr e)
/-- What comes of the panic. -/
structure PanQ (D : Dx) (X : Ctl) (c00 : Cx) (p00 : Pl) (w00 : World) (n : Nat) (Q : Exit → Act → World → Prop) (i : Nat) : Prop where
  wants : ∀ o, D.ops[i]? = some o → awanted D.ops (D.E i) o = some true
  louds : ∀ j, j < i → D.K j = .loud → D.b i j = true
  none_ : ∀ j, i ≤ j → D.K j ≠ .loud
  pans : ∃ v mf, (∀ o, D.ops[i]? = some o → evalQ D.P D.rc D.fls D.made (opd (D.E i)) (D.M i) o i = some (.pan v mf)) ∧
    ∀ p' w' u a, Ext p00 w00 p' w' → c00.le (cx X p' w' mf.hp) → Kept c00 (cx X p' w' mf.hp) → SOk X p' w' mf (dropAll (D.E i) D.ops.toList.zipIdx) n a → VRel (cx X p' w' mf.hp) v u → Q (.panic [{ v := u, recovered := false }]) a w'
theorem dropAll_mem : ∀ {l : List (Oper × Nat)} {e : Env} {q : Nat × SV}, q ∈ dropAll e l → q ∈ e ∧ ∀ x ∈ l, x.1.dst ≠ some q.1
  | [], e, q, h => ⟨h, fun x hx => by cases hx⟩
  | (o, i) :: r, e, q, h => by
    obtain ⟨h1, h2⟩ := dropAll_mem (l := r) h
    cases hd : o.dst with
    | none =>
      rw [hd] at h1
      refine ⟨h1, fun x hx => ?_⟩
      cases hx with
      | head => rw [hd]; simp
      | tail _ hx => exact h2 x hx
    | some d =>
      rw [hd] at h1
      obtain ⟨h1, h3⟩ := List.mem_filter.1 h1
      refine ⟨h1, fun x hx => ?_⟩
      cases hx with
      | head =>
        rw [hd]
        intro e
        cases e
        simp [Nat.beq_refl] at h3
      | tail _ hx => exact h2 x hx
theorem dropAll_filter : ∀ (l : List (Oper × Nat)) (e : Env), Srt e → Srt (dropAll e l)
  | [], e, h => h
  | (o, i) :: r, e, h => by
    refine dropAll_filter r _ ?_
    cases o.dst with
    | none => exact h
    | some d => exact List.Pairwise.filter _ h
theorem isL_of {j : Nat} {o : Oper} (ho : D.ops[j]? = some o) (h : D.K j = .loud) : D.isL o j = true := ((kind ho (live_of (by simp) h)).2.2 h).2.1
theorem runs (hD : DOk D c00 n) (hrec : RecOk D.P D.rc) (hI : DInv D X c00 p00 w00 n L t p w a) {i : Nat} {o : Oper} (hr : Rdy D L i o) {Q : Exit → Act → World → Prop} {K : Act → World → Prop}
    (hpan : D.dead i = true → PanQ D X c00 p00 w00 n Q i)
    (hnext : ∀ t' p' w' a', DInv D X c00 p00 w00 n (fun j => L j ∨ j = i) t' p' w' a' → K a' w') : wpOp D.P D.ops Q i K a w := by
  have hi : i < D.ops.size := (Array.getElem?_eq_some_iff.1 hr.at_).1
  have hlook := look hD hI hr
  have hS : SOk X p w (D.M t) ((D.E i).filter fun q => mem (readsOf D.ops o) q.1) n a := ⟨hI.r, hI.xl, hlook, hI.df⟩
  have hop : ∀ m, evalOp D.P D.rc (aget D.fls i) (opd ((D.E i).filter fun q => mem (readsOf D.ops o) q.1)) m o = evalOp D.P D.rc (aget D.fls i) (opd (D.E i)) m o := fun m => evalOp_congr opd_filter
  have hsame : ∀ k b, p.rl k = some b → p.rl k = some b := fun _ _ h => h
  unfold wpOp
  rw [hr.at_]
  simp only
  cases hdead : D.dead i with
  | true =>
    obtain ⟨h1, h2, h3, v, mf, h4, h5⟩ := hpan hdead
    have hw := h1 o hr.at_
    rw [← awanted_filter] at hw
    rw [awanted_sound hlook hw, if_pos rfl]
    left
    have hM := loud_now hD hI hr h2 (.inr h3)
    have hev := h4 o hr.at_
    unfold evalQ at hev
    split at hev
    · simp only [Option.map_eq_some_iff] at hev
      obtain ⟨_, _, e⟩ := hev
      cases e
    · rw [← hop, ← hM] at hev
      refine evalOp_sound hS.hyp hrec hev ?_
      intro p' w' u g1 g2 g3 g4 g5 g6 g7
      refine h5 p' w' u a (hI.ext.trans g1) (hI.le.trans g2) (hI.kept.trans hI.le g2 g3) ⟨g4, fun blk hb => Nat.lt_of_lt_of_le (hI.xl blk hb) g1.size, ?_, g5⟩ g7
      obtain ⟨hs, hg⟩ := E_get hD.srt (D := D) (i := i)
      refine ⟨hI.sz, dropAll_filter _ _ hs, fun q hq => ?_⟩
      obtain ⟨k1, k2⟩ := dropAll_mem hq
      have hno : ∀ (j : Nat) (o' : Oper), D.ops[j]? = some o' → o'.dst ≠ some q.1 := fun j o' ho' => k2 (o', j) (by
        rw [List.mem_iff_getElem?]
        exact ⟨j, by have := Lies.zip D.ops j; rw [this]; simp [ho']⟩)
      rcases hg q k1 with ⟨j, o', l1, l2, l3, l4, _⟩ | ⟨l1, l2⟩
      · exact absurd l4 (hno j o' l2)
      · exact (hI.old q l1 fun j o' _ ho' => hno j o' ho').mono g2 fun k _ _ => g6 k
  | false =>
    have hin := (hD.good i hi).in_ hdead
    obtain ⟨k1, k2, k3⟩ := kind hr.at_ hdead
    -- those that are loud, by the text
    have hloudB : D.K i = .loud → ∀ j, j < i → D.K j = .loud → D.b i j = true := by
      intro hl j hj hlj
      have hjs : j < D.ops.size := by omega
      have g1 := (k3 hl).2.1
      have g2 := isL_of (Array.getElem?_eq_getElem hjs) hlj
      exact hD.pair j i _ o hj (Array.getElem?_eq_getElem hjs) hr.at_ (.inr ⟨g1, g2⟩)
    have hphq : D.K i ≠ .loud → ∀ j, j < D.ops.size → D.K j = .loud → ((L j ∨ j = i) ↔ j < t) := by
      intro hne j hj hl
      rw [← hI.ph j hj hl]
      constructor
      · rintro (h | rfl)
        · exact h
        · exact absurd hl hne
      · exact .inl
    cases hk : D.K i with
    | out => exact absurd hk hin
    | skip =>
      obtain ⟨hw, hV, hM⟩ := k1 hk
      rw [← awanted_filter] at hw
      rw [awanted_sound hlook hw, if_neg (by simp)]
      exact hnext t p w _ (next (t' := t) (ds := a.defers) hD hI hr hdead (Ext.refl p w) (Cx.le.refl _) hI.r hI.df hsame (by rw [hV]; exact ⟨[], rfl, rfl⟩) hI.kept (hphq (by rw [hk]; simp)) fun j s cs h1 h2 _ => hI.pend j s cs h1 h2)
    | quiet =>
      obtain ⟨hw, hisL, _, hM⟩ := k2 hk
      rw [← awanted_filter] at hw
      rw [awanted_sound hlook hw, if_pos rfl]
      left
      have hat := quiet_now hD hI hr hk
      simp only [at_, hr.at_] at hat
      obtain ⟨m', hev⟩ := valQ_eq hat
      unfold evalQ at hev
      split at hev
      · rename_i s cs hmade
        simp only [Option.map_eq_some_iff, OR.val.injEq] at hev
        obtain ⟨v, hst, rfl, _⟩ := hev
        obtain ⟨⟨o', ty, z, g1, g2, g3, g4, g5⟩, g6⟩ := hD.made i s cs hmade
        rw [hr.at_] at g1
        cases g1
        refine op_made (Q := Q) hI.r hI.xl g2 g4 g5 hst (fun id ep e => ?_) (hI.pend i s cs hmade hr.new) fun p' w' u l1 l2 l3 l4 l5 l6 l7 => ?_
        · rcases g6 with ⟨k, rfl⟩ | ⟨id', rfl, _⟩
          · cases e
          · cases e; rfl
        · refine hnext t p' w' _ (next (t' := t) (ds := a.defers) hD hI hr hdead l1 l2 l3 (hI.df.mono l2) l4 l7 ?_ (hphq (by rw [hk]; simp)) fun j s' cs' m1 m2 m3 => l5 s' (hD.apart i j s cs s' cs' m3.symm hmade m1) (hI.pend j s' cs' m1 m2))
          intro id nn q1 q2 q3 q4
          show p'.rh id = none
          rw [l6 id ?_]
          · exact hI.kept id nn q1 q2 q3 q4
          · intro ep e
            rcases g6 with ⟨k, rfl⟩ | ⟨id', rfl, g7⟩
            · cases e
            · cases e
              rw [g7] at q1; cases q1
      · rename_i hmade
        have hloud : loud (aget D.fls i) o = false := by
          unfold isL at hisL
          rw [hmade] at hisL
          simpa using hisL
        obtain rfl := quiet_same hloud hev
        rw [← hop] at hev
        refine evalOp_sound hS.hyp hrec hev ?_
        intro p' w' ds' u l1 l2 l3 l4 l5 l6 l7
        have hsite : ∀ k, isSite (aget D.fls i) k = false := by
          have := hD.site i hi hmade
          intro k
          unfold isSiteF at this
          unfold isSite
          split <;> simp_all
        exact hnext t p' w' _ (next (t' := t) hD hI hr hdead l1 l2 l4 l5 (fun k b h => (l6 k (hsite k)).trans h) l7 (hI.kept.trans hI.le l2 l3) (hphq (by rw [hk]; simp)) fun j s cs m1 m2 _ => (hI.pend j s cs m1 m2).next l2 l3 fun k => l6 k (hsite k))
    | loud =>
      obtain ⟨hw, hisL, hev⟩ := k3 hk
      rw [← awanted_filter] at hw
      rw [awanted_sound hlook hw, if_pos rfl]
      left
      have hM := loud_now hD hI hr (hloudB hk) (.inl hk)
      have hmade : aget D.made i = none := by
        unfold isL at hisL
        simp only [Bool.and_eq_true, Option.isNone_iff_eq_none] at hisL
        exact hisL.2
      unfold evalQ at hev
      rw [hmade] at hev
      simp only at hev
      rw [← hop, ← hM] at hev
      refine evalOp_sound hS.hyp hrec hev ?_
      intro p' w' ds' u l1 l2 l3 l4 l5 l6 l7
      have hsite : ∀ k, isSite (aget D.fls i) k = false := by
        have := hD.site i hi hmade
        intro k
        unfold isSiteF at this
        unfold isSite
        split <;> simp_all
      refine hnext (i + 1) p' w' _ (next (t' := i + 1) hD hI hr hdead l1 l2 l4 l5 (fun k b h => (l6 k (hsite k)).trans h) l7 (hI.kept.trans hI.le l2 l3) (fun j hj hl => ?_) fun j s cs m1 m2 _ => (hI.pend j s cs m1 m2).next l2 l3 fun k => l6 k (hsite k))
      constructor
      · rintro (h | rfl)
        · rcases Nat.lt_trichotomy j i with g | g | g
          · omega
          · omega
          · have g1 := isL_of (Array.getElem?_eq_getElem hj) hl
            have := hD.pair i j o _ g hr.at_ (Array.getElem?_eq_getElem hj) (.inr ⟨g1, hisL⟩)
            exact absurd (listed_behind hI h this) hr.new
        · omega
      · intro h
        rcases Nat.lt_or_ge j i with g | g
        · exact .inl (hr.behind hI (hloudB hk j g hl))
        · exact .inr (by omega)
/-- All orders. -/
theorem all_orders (hD : DOk D c00 n) (hrec : RecOk D.P D.rc) {Q : Exit → Act → World → Prop}
    (hdead : ∀ i, i < D.ops.size → D.dead i = true → (∃ j, D.b i j = true ∧ D.dead j = true) ∨ PanQ D X c00 p00 w00 n Q i)
    (hfin : (∀ i, i < D.ops.size → D.dead i = false) → ∀ t p w a, DInv D X c00 p00 w00 n (fun i => i < D.ops.size) t p w a → Q .normal a w) :
    ∀ (fuel : Nat) (listed : Array Bool) (t : Nat) (p : Pl) (w : World) (a : Act), listed.size = D.ops.size → listed.toList.count false = fuel → DInv D X c00 p00 w00 n (fun i => listed.getD i false = true) t p w a →
      wpAny D.P .any D.ops Q fuel listed a w := by
  intro fuel
  induction fuel with
  | zero =>
    intro listed t p w a hsz hc hI
    have hall : ∀ i, i < D.ops.size → listed.getD i false = true := by
      intro i hi
      have hi' : i < listed.size := by omega
      rw [Array.getD_eq_getD_getElem?, Array.getElem?_eq_getElem hi', Option.getD_some]
      cases h : listed[i] with
      | true => rfl
      | false =>
        exfalso
        have hm : false ∈ listed.toList := by rw [← h]; exact Array.getElem_mem_toList hi'
        have := List.count_pos_iff.2 hm
        omega
    refine ⟨?_, ?_⟩
    · unfold Region.ready
      rw [List.filter_eq_nil_iff]
      intro i hi
      have hi' := List.mem_range.1 hi
      have h1 := hall i hi'
      have h2 : listed.getD i true = true := by
        rw [Array.getD_eq_getD_getElem?, Array.getElem?_eq_getElem (by omega)] at h1 ⊢
        exact h1
      rw [h2]
      simp
    · refine hfin (fun i hi => hI.live i (hall i hi)) t p w a ?_
      have e : (fun i => listed.getD i false = true) = fun i => i < D.ops.size := funext fun i => propext ⟨fun h => hI.lt i h, hall i⟩
      rw [e] at hI
      exact hI
  | succ fuel ih =>
    intro listed t p w a hsz hc hI
    have hgetD : ∀ i, i < D.ops.size → listed.getD i true = listed.getD i false := fun i hi => by
      rw [Array.getD_eq_getD_getElem?, Array.getD_eq_getD_getElem?, Array.getElem?_eq_getElem (by omega)]; rfl
    have hready : ∀ i, i ∈ Region.ready .any D.ops listed → ∃ o, Rdy D (fun i => listed.getD i false = true) i o := by
      intro i hi
      unfold Region.ready at hi
      obtain ⟨h1, h2⟩ := List.mem_filter.1 hi
      have hi' := List.mem_range.1 h1
      rw [hgetD i hi', Array.getElem?_eq_getElem hi'] at h2
      simp only [Option.map_some, Option.getD_some, Bool.and_eq_true, Bool.not_eq_true'] at h2
      refine ⟨_, Array.getElem?_eq_getElem hi', by rw [h2.1]; simp, fun e he hb => ?_⟩
      have := Array.all_eq_true_iff_forall_mem.1 h2.2 e (Array.mem_toList_iff.1 he)
      rw [hb] at this
      simpa using this
    refine ⟨fun hnil => ?_, fun i hi => ?_⟩
    · -- there is always one that is ready
      exfalso
      have hm : false ∈ listed.toList := List.count_pos_iff.1 (by omega)
      have hex : ∃ k, k < D.ops.size ∧ listed.getD k false = false := by
        obtain ⟨k, hk, e⟩ := List.getElem_of_mem hm
        simp only [Array.length_toList] at hk
        refine ⟨k, by omega, ?_⟩
        rw [Array.getD_eq_getD_getElem?, Array.getElem?_eq_getElem hk]
        simpa using e
      have hleast : ∀ k, k < D.ops.size → listed.getD k false = false → False := by
        intro k
        induction k using Nat.strongRecOn with
        | _ k ihk =>
          intro hk hf
          have : k ∈ Region.ready .any D.ops listed := by
            unfold Region.ready
            refine List.mem_filter.2 ⟨List.mem_range.2 hk, ?_⟩
            rw [hgetD k hk, hf, Array.getElem?_eq_getElem hk]
            simp only [Option.map_some, Option.getD_some, Bool.not_false, Bool.true_and]
            refine Array.all_eq_true_iff_forall_mem.2 fun e he => ?_
            cases hb : Region.binds .any e with
            | false => rfl
            | true =>
              have hlt := hD.edge k _ e (Array.getElem?_eq_getElem hk) (Array.mem_toList_iff.2 he) hb
              cases hl : listed.getD e.on false with
              | true => simp
              | false => exact (ihk e.on hlt (by omega) hl).elim
          rw [hnil] at this
          cases this
      obtain ⟨k, h1, h2⟩ := hex
      exact hleast k h1 h2
    · obtain ⟨o, hr⟩ := hready i hi
      have hi' : i < D.ops.size := (Array.getElem?_eq_some_iff.1 hr.at_).1
      refine runs hD hrec hI hr (fun hd => ?_) fun t' p' w' a' hI' => ih (listed.setIfInBounds i true) t' p' w' a' (by simp [hsz]) ?_ ?_
      · rcases hdead i hi' hd with ⟨j, h1, h2⟩ | h
        · have := hI.live j (hr.behind hI h1)
          rw [this] at h2; cases h2
        · exact h
      · have hf : listed.toList[i]'(by simp; omega) = false := by
          have := hr.new
          rw [Array.getD_eq_getD_getElem?, Array.getElem?_eq_getElem (by omega)] at this
          simpa using this
        rw [Array.toList_setIfInBounds, List.count_set (by simp; omega), hf]
        show listed.toList.count false - 1 + 0 = fuel
        omega
      · have e : (fun j => (listed.setIfInBounds i true).getD j false = true) = fun j => listed.getD j false = true ∨ j = i := funext fun j => propext (by
          rw [Array.getD_eq_getD_getElem?, Array.getElem?_setIfInBounds]
          by_cases h : i = j
          · subst h
            rw [if_pos rfl, if_pos (by omega)]
            simp
          · rw [if_neg h, ← Array.getD_eq_getD_getElem?]
            constructor
            · exact .inl
            · rintro (h' | h')
              · exact h'
              · exact absurd h'.symm h)
        rw [e]
        exact hI'
end Dx
end Go.Ai
/- The abstract interpreter: regions that draw their order, from their begin to their end. -/
set_option linter.unusedVariables false
set_option linter.unusedSimpArgs false
set_option linter.unusedSectionVars false
namespace Go.Ai
variable [Glob]
def Pl.cutL (p : Pl) (k : Nat) : Pl := { p with rl := fun i => if i = k then none else p.rl i }
section
variable {P : Program} {rec : Rec} {fls : List (Nat × Flag)} {ops : Array Oper} {X : Ctl} {p : Pl} {w : World} {m : Mm} {n : Nat} {a : Act}
theorem MRel.more (r : MRel X p w m) (cs : List AV) : MRel X p w { m with hp := m.hp ++ [cs] } ∧ (cx X p w m.hp).le (cx X p w (m.hp ++ [cs])) ∧ p.rh m.hp.length = none := by
  have hle : (cx X p w m.hp).le (cx X p w (m.hp ++ [cs])) := (Ext.refl p w).le fun i c h1 => by
    have hi := (List.getElem?_eq_some_iff.1 h1).1
    exact ⟨c, by rw [List.getElem?_append_left hi]; exact h1, Nat.le_refl _, fun _ => .inl rfl⟩
  refine ⟨⟨fun i c b z h1 h2 => ?_, fun i b z h => by have := r.hlt i b z h; simp; omega, fun k b h => (r.loc k b h).mono hle rfl, r.injh, r.injl, r.dis, r.hsz, r.lsz, r.muts, r.gl.mono hle⟩, hle, ?_⟩
  · have hi := r.hlt i b z h2
    rw [List.getElem?_append_left hi] at h1
    exact (r.hp i c b z h1 h2).mono hle rfl
  · cases h : p.rh m.hp.length with
    | none => rfl
    | some x => have := r.hlt _ _ _ h; omega
theorem ext_cutL (p : Pl) (w : World) (k : Nat) : Ext p w (p.cutL k) w := ⟨rfl, rfl, rfl, Nat.le_refl _, fun _ _ _ _ => rfl, fun _ _ _ h _ => h, fun i b h _ => by
  simp only [Pl.cutL] at h
  split at h
  · cases h
  · exact h⟩
theorem MRel.cut (r : MRel X p w m) (k : Nat) (o : LObj) : MRel X (p.cutL k) w { m with loc := aset m.loc k o } ∧ (cx X p w m.hp).le (cx X (p.cutL k) w m.hp) := by
  have hle : (cx X p w m.hp).le (cx X (p.cutL k) w m.hp) := (ext_cutL p w k).le_same fun _ => rfl
  have hrl : ∀ i b, (p.cutL k).rl i = some b → i ≠ k ∧ p.rl i = some b := fun i b h => by
    simp only [Pl.cutL] at h
    split at h
    · cases h
    · rename_i hne; exact ⟨hne, h⟩
  refine ⟨⟨fun i c b z h1 h2 => (r.hp i c b z h1 h2).mono hle rfl, r.hlt, fun i b h => ?_, r.injh, fun i j b h1 h2 => r.injl i j b (hrl i b h1).2 (hrl j b h2).2, fun i j b z h1 h2 => r.dis i j b z h1 (hrl j b h2).2, r.hsz, fun i b h => r.lsz i b (hrl i b h).2, fun b hb => ⟨(r.muts b hb).1, fun i h => (r.muts b hb).2 i (hrl i b h).2⟩, r.gl.mono hle⟩, hle⟩
  obtain ⟨h1, h2⟩ := hrl i b h
  rw [aget_aset, if_neg (fun e => h1 e.symm)]
  exact (r.loc i b h2).mono hle rfl

structure Mk (P : Program) (ops : Array Oper) (X : Ctl) (p0 : Pl) (w : World) (hp0 : Heap) (n : Nat) (a : Act) (made : Made) (p : Pl) (m : Mm) (e : Env) (k : Nat) : Prop where
  r : MRel X p w m
  ext : Ext p0 w p w
  le : (cx X p0 w hp0).le (cx X p w m.hp)
  kept : Kept (cx X p0 w hp0) (cx X p w m.hp)
  en : ERel (cx X p w m.hp) p n e a
  df : DRel (cx X p w m.hp) m.dfs a.defers
  len : hp0.length ≤ m.hp.length
  ent : ∀ x ∈ made, x.1 < k ∧ MadeAt P ops (cx X p0 w hp0) x.1 x.2.1 x.2.2 ∧ Pend (cx X p w m.hp) p x.2.1 ∧ ∀ id off ep, x.2.1 = .v (.ptr id off ep) → id < m.hp.length
  apart : ∀ x ∈ made, ∀ y ∈ made, x.1 ≠ y.1 → Apart x.2.1 y.2.1
theorem makeAll_ok {p0 : Pl} {hp0 : Heap} {e' : Env} {m' : Mm} {made' : Made} : ∀ (l : List (Oper × Nat)) (s : Nat) (e : Env) (m : Mm) (p : Pl) (acc : Made), Lies ops s l → Mk P ops X p0 w hp0 n a acc p m e s → makeAll P fls l e m acc = some (e', m', made') →
    ∃ p' k, Mk P ops X p0 w hp0 n a made' p' m' e' k
  | [], s, e, m, p, acc, hl, h, he => by
    simp only [makeAll, Option.some.injEq, Prod.mk.injEq] at he
    obtain ⟨rfl, rfl, rfl⟩ := he
    exact ⟨p, s, h⟩
  | (o, s) :: r, s0, e, m, p, acc, hl, h, he => by
    obtain ⟨ho, rfl, hr⟩ := hl.head
    have up : Mk P ops X p0 w hp0 n a acc p m e (s + 1) := ⟨h.r, h.ext, h.le, h.kept, h.en, h.df, h.len, fun x hx => ⟨by have := (h.ent x hx).1; omega, (h.ent x hx).2⟩, h.apart⟩
    simp only [makeAll] at he
    split at he
    · rename_i t hop hgd
      simp only [Option.bind_eq_some_iff] at he
      obtain ⟨z, hz, cs, hcs, he⟩ := he
      split at he
      · exact makeAll_ok r (s + 1) e m p acc hr up he
      · rename_i cs _ _ k hne hfl
        split at he
        · cases he
        · rename_i hany
          obtain ⟨h1, h2⟩ := h.r.cut k (.cells cs)
          refine makeAll_ok r (s + 1) _ _ (p.cutL k) _ hr ⟨h1, h.ext.trans (ext_cutL p w k), h.le.trans h2, h.kept.trans h.le h2 (.same fun _ h => h), ?_, h.df.mono h2, h.len, fun x hx => ?_, fun x hx y hy hxy => ?_⟩ he
          · refine ERel.mono (c := cx X p w m.hp) (p := p) (h.en.edrop k) h2 fun q hq k' off e' => ?_
            simp only [Pl.cutL]
            exact if_neg (edrop_rl hq e')
          · rcases List.mem_append.1 hx with hx | hx
            · obtain ⟨g1, g2, g3, g4⟩ := h.ent x hx
              refine ⟨by omega, g2, ?_, g4⟩
              generalize x.2.1 = sv at g3
              cases sv with
              | v y => cases y <;> exact g3
              | l j _ =>
                simp only [Pend, Pl.cutL]
                split
                · rfl
                · exact g3
            · simp only [List.mem_singleton] at hx
              subst hx
              exact ⟨Nat.lt_succ_self _, ⟨⟨o, t, z, ho, hop, hgd, hz, hcs⟩, .inl ⟨k, rfl⟩⟩, by simp [Pend, Pl.cutL], fun _ _ _ e => by cases e⟩
          · have key : ∀ x ∈ acc, Apart x.2.1 (.l k 0) := fun x' hx' => by
              cases hv : x'.2.1 with
              | v y => cases y <;> trivial
              | l k' _ =>
                show k' ≠ k
                rintro rfl
                apply hany
                rw [List.any_eq_true]
                exact ⟨x', hx', by rw [hv]; exact Nat.beq_refl _⟩
            rcases List.mem_append.1 hx with hx | hx <;> rcases List.mem_append.1 hy with hy | hy
            · exact h.apart x hx y hy hxy
            · simp only [List.mem_singleton] at hy
              subst hy
              exact key x hx
            · simp only [List.mem_singleton] at hx
              subst hx
              exact (key y hy).symm
            · simp only [List.mem_singleton] at hx hy
              subst hx; subst hy
              exact absurd rfl hxy
      · rename_i cs _ _ hne hfl
        obtain ⟨h1, h2, h3⟩ := h.r.more cs
        have hlen : cs.length ≠ 0 := by
          intro e0
          have : cs = [] := List.length_eq_zero_iff.1 e0
          exact hne this
        refine makeAll_ok r (s + 1) _ _ p _ hr ⟨h1, h.ext, h.le.trans h2, h.kept.trans h.le h2 (.same fun _ h => h), h.en.mono h2 fun _ _ _ _ _ => rfl, h.df.mono h2, by simp; have := h.len; omega, fun x hx => ?_, fun x hx y hy hxy => ?_⟩ he
        · rcases List.mem_append.1 hx with hx | hx
          · obtain ⟨g1, g2, g3, g4⟩ := h.ent x hx
            exact ⟨by omega, g2, g3.next h2 (.same fun _ h => h) fun _ => rfl, fun id off ep e => by have := g4 id off ep e; simp; omega⟩
          · simp only [List.mem_singleton] at hx
            subst hx
            refine ⟨Nat.lt_succ_self _, ⟨⟨o, t, z, ho, hop, hgd, hz, hcs⟩, .inr ⟨m.hp.length, rfl, ?_⟩⟩, ⟨hlen, cs.length, by simp [cx], Nat.le_refl _, fun _ => h3⟩, fun id off ep e => by cases e; simp⟩
            simp only [cx]
            rw [List.getElem?_eq_none h.len]
            rfl
        · have key : ∀ x ∈ acc, Apart x.2.1 (.v (.ptr m.hp.length 0 cs.length)) := fun x hx => by
            cases hv : x.2.1 with
            | l _ _ => trivial
            | v y =>
              cases y with
              | ptr id off ep =>
                have := (h.ent x hx).2.2.2 id off ep hv
                show id ≠ m.hp.length
                omega
              | _ => trivial
          rcases List.mem_append.1 hx with hx | hx <;> rcases List.mem_append.1 hy with hy | hy
          · exact h.apart x hx y hy hxy
          · simp only [List.mem_singleton] at hy
            subst hy
            exact key x hx
          · simp only [List.mem_singleton] at hx
            subst hx
            exact (key y hy).symm
          · simp only [List.mem_singleton] at hx hy
            subst hx; subst hy
            exact absurd rfl hxy
    · exact makeAll_ok r (s + 1) e m p acc hr up he
theorem zip_mem {j : Nat} {o : Oper} (h : ops[j]? = some o) : (o, j) ∈ ops.toList.zipIdx := by
  rw [List.mem_iff_getElem?]
  exact ⟨j, by have := Lies.zip ops j; rw [this]; simp [h]⟩
theorem drawOk_spec {made : Made} {D : Dx} (h : drawOk D.fls D.made D.ops (Region.before D.ops) = true) :
    (∀ j o e, D.ops[j]? = some o → e ∈ o.after.toList → Region.binds .any e = true → e.on < j) ∧ (∀ j, j < D.ops.size → aget D.made j = none → isSiteF (aget D.fls j) = false) ∧
    ∀ i j oi oj, i < j → D.ops[i]? = some oi → D.ops[j]? = some oj → (clash D.ops oi oj = true ∨ (D.isL oj j = true ∧ D.isL oi i = true)) → D.b j i = true := by
  unfold drawOk at h
  have key := fun j o (ho : D.ops[j]? = some o) => List.all_eq_true.1 h (o, j) (zip_mem ho)
  simp only [Bool.and_eq_true] at key
  refine ⟨fun j o e ho he hb => ?_, fun j hj hm => ?_, fun i j oi oj hij hi hj hc => ?_⟩
  · have := List.all_eq_true.1 (key j o ho).1.1.1 e he
    rw [hb] at this
    exact of_eq_true ((Nat.blt_eq).symm.trans (eq_true (by simpa using this)))
  · have := (key j _ (Array.getElem?_eq_getElem hj)).1.1.2
    rw [hm] at this
    simpa using this
  · have := List.all_eq_true.1 (key j oj hj).2 (oi, i) (zip_mem hi)
    simp only at this
    rw [show Nat.blt i j = true from by rw [Nat.blt_eq]; exact hij] at this
    unfold Dx.b
    unfold Dx.isL at hc
    cases hb : behind (Region.before D.ops) j i with
    | true => rfl
    | false =>
      rw [hb] at this
      simp only [Bool.not_true, Bool.false_or, Bool.not_eq_true'] at this
      rcases hc with hc | ⟨h1, h2⟩
      · rw [hc] at this; simp at this
      · simp only [Bool.and_eq_true] at h1 h2
        rw [h1.1, h1.2, h2.1, h2.2] at this
        simp at this
end
end Go.Ai
/- The abstract interpreter: regions that draw their order. -/
set_option linter.unusedVariables false
set_option linter.unusedSimpArgs false
set_option linter.unusedSectionVars false
namespace Go.Ai
variable [Glob]
namespace Dx
variable {D D' : Dx} {X : Ctl} {c00 : Cx} {p00 : Pl} {w00 : World} {n : Nat} {t : Nat} {p : Pl} {w : World} {a : Act}
theorem K_big {i : Nat} (h : D.ops.size ≤ i) : D.K i = .out := by simp only [K, Array.getElem?_eq_none h]
/-- At the end all is as in the text's order. -/
theorem fin_ok (hD : DOk D c00 n) (hI : DInv D X c00 p00 w00 n (fun i => i < D.ops.size) t p w a) : D.M t = D.M D.ops.size ∧ SOk X p w (D.M D.ops.size) (D.E D.ops.size) n a := by
  have hM : D.M t = D.M D.ops.size := by
    rcases Nat.lt_or_ge t D.ops.size with h | h
    · exact (M_const (Nat.le_of_lt h) fun k k1 k2 hl => by have := (hI.ph k k2 hl).1 k2; omega).symm
    · exact M_const h fun k k1 k2 hl => by rw [K_big k1] at hl; cases hl
  refine ⟨hM, ?_⟩
  rw [← hM]
  refine ⟨hI.r, hI.xl, ?_, hI.df⟩
  obtain ⟨hs, hg⟩ := E_get hD.srt (D := D) (i := D.ops.size)
  refine ⟨hI.sz, hs, fun q hq => ?_⟩
  rcases hg q hq with ⟨j, o, h1, h2, h3, h4, h5, h6⟩ | ⟨h1, h2⟩
  · rw [h5]
    exact hI.last j o q.1 h1 h2 h4 fun j' o' g1 g2 g3 => h6 j' o' g1 g2 (hI.live j' g1) g3
  · exact hI.old q h1 fun j o g1 g2 => h2 j o g1 g2 (hI.live j g1)
/-- With another set left out, up to its first. -/
theorem same_K (hD : D' = { D with dead := D'.dead }) {i : Nat} (h : ∀ j, j ≤ i → D'.dead j = D.dead j) : D'.K i = D.K i := by
  have ht := tx_congr hD (i := i) fun j hj => h j (by omega)
  have hop : ∀ o i e m, D'.op o i e m = D.op o i e m := fun o i e m => by rw [hD]; rfl
  have hops : D'.ops = D.ops := by rw [hD]
  simp only [K, E, M, ht, hop, hops, h i (Nat.le_refl _)]
theorem same_M (hD : D' = { D with dead := D'.dead }) {i : Nat} (h : ∀ j, j < i → D'.dead j = D.dead j) : D'.M i = D.M i := by simp only [M, tx_congr hD h]
theorem same_E (hD : D' = { D with dead := D'.dead }) {i : Nat} (h : ∀ j, j < i → D'.dead j = D.dead j) : D'.E i = D.E i := by simp only [E, tx_congr hD h]
theorem same_V (hD : D' = { D with dead := D'.dead }) {i : Nat} (h : ∀ j, j < i → D'.dead j = D.dead j) : D'.V i = D.V i := by
  have hop : ∀ o i e m, D'.op o i e m = D.op o i e m := fun o i e m => by rw [hD]; rfl
  have hops : D'.ops = D.ops := by rw [hD]
  simp only [V, same_E hD h, same_M hD h, hop, hops]
theorem same_at (hD : D' = { D with dead := D'.dead }) {i : Nat} (h : ∀ j, j < i → D'.dead j = D.dead j) (m : Mm) : D'.at_ i m = D.at_ i m := by
  have hops : D'.ops = D.ops := by rw [hD]
  have hev : ∀ ρ m o i, evalQ D'.P D'.rc D'.fls D'.made ρ m o i = evalQ D.P D.rc D.fls D.made ρ m o i := fun ρ m o i => by rw [hD]
  simp only [at_, same_E hD h, hops, hev]
theorem same_good (hD : D' = { D with dead := D'.dead }) {i : Nat} (h : ∀ j, j ≤ i → D'.dead j = D.dead j) (hg : D.Good i) : D'.Good i := by
  have hb : ∀ i j, D'.b i j = D.b i j := fun i j => by rw [hD]; rfl
  refine ⟨fun hd => ?_, fun j hj h1 h2 => ?_, fun j hj h1 h2 => ?_⟩
  · rw [same_K hD h]
    exact hg.in_ (by rw [← h i (Nat.le_refl _)]; exact hd)
  · rw [same_K hD fun k hk => h k (by omega)] at h1
    rw [same_K hD h] at h2
    rw [hb, same_at hD fun k hk => h k (by omega), same_M hD fun k hk => h k (by omega), same_V hD fun k hk => h k (by omega)]
    exact hg.back j hj h1 h2
  · rw [same_K hD fun k hk => h k (by omega)] at h1
    rw [same_K hD h] at h2
    rw [hb, same_at hD fun k hk => h k (by omega), same_M hD fun k hk => h k (by omega), same_V hD fun k hk => h k (by omega)]
    exact hg.ahead j hj h1 h2
end Dx
section
variable {P : Program} {rec : Rec} {fls : List (Nat × Flag)} {ops : Array Oper} {X : Ctl} {p : Pl} {w : World} {m : Mm} {e : Env} {n : Nat} {a : Act} {Q : Exit → Act → World → Prop}
theorem evalDraw_sound (hmix : P.follows .mixedOrders = true) (hrec : RecOk P rec) (hd : ∀ (i : Nat) (o : Oper), ops[i]? = some o → ∀ d, o.dst = some d → d < n) {id : Nat} {ex : Ex} {e' : Env} {m' : Mm} (h : SOk X p w m e n a)
    (he : evalDraw P rec fls ops e m = some (ex, e', m')) (hp : Post Q X p w m.hp ex e' m' n) : (Code.region id ops true).wp P Q a w := by
  refine wp_region_any hmix ?_
  unfold evalDraw at he
  simp only [Option.bind_eq_some_iff] at he
  obtain ⟨⟨e1, m1, made⟩, hmk, he⟩ := he
  simp only at he
  split at he
  rotate_left
  · cases he
  rename_i hok
  have hq := Quiet.drew w
  have hle0 : (cx X p w m.hp).le (cx X p { w with drawn := w.drawn + 1 } m.hp) := (hq.ext p).le_same fun _ => rfl
  have hp0 := hp.step (hq.ext p) hle0 (.same fun _ h => h)
  generalize ({ w with drawn := w.drawn + 1 } : World) = w1 at hq hle0 hp0 ⊢
  obtain ⟨p1, k, hk⟩ := makeAll_ok (P := P) (ops := ops) (X := X) (w := w1) (n := n) (a := a) (p0 := p) (hp0 := m.hp) ops.toList.zipIdx 0 e m p [] (Lies.zip ops)
    ⟨h.r.quiet hq, Ext.refl p w1, Cx.le.refl _, .same fun _ h => h, h.en.mono hle0 fun _ _ _ _ _ => rfl, h.df.mono hle0, Nat.le_refl _, fun x hx => (by cases hx), fun x hx => (by cases hx)⟩ hmk
  have hxl : ∀ blk, X.Mut blk → blk < w1.heap.size := fun blk hb => Nat.lt_of_lt_of_le (h.lt blk hb) hq.size
  have hmade : ∀ i s cs, aget made i = some (s, cs) → MadeAt P ops (cx X p w1 m.hp) i s cs := fun i s cs hi => (hk.ent _ (aget_mem hi)).2.1
  have hapart : ∀ i j s cs s' cs', i ≠ j → aget made i = some (s, cs) → aget made j = some (s', cs') → Apart s s' := fun i j s cs s' cs' hij h1 h2 => hk.apart _ (aget_mem h1) _ (aget_mem h2) hij
  -- where all begins
  have hinit : ∀ D : Dx, D.P = P → D.ops = ops → D.made = made → D.e0 = e1 → D.m0 = m1 → DInv D X (cx X p w1 m.hp) p w1 n (fun i => (Array.replicate ops.size false).getD i false = true) 0 p1 w1 a := by
    intro D h1 h2 h3 h4 h5
    have hno : ∀ i, ¬ (Array.replicate ops.size false).getD i false = true := fun i => by
      rw [Array.getD_eq_getD_getElem?, Array.getElem?_replicate]
      split <;> simp
    have hM0 : D.M 0 = m1 := h5
    refine ⟨fun i h => absurd h (hno i), fun i h => absurd h (hno i), fun i _ _ h => absurd h (hno i), fun i _ _ => ⟨fun h => absurd h (hno i), fun h => by omega⟩, by rw [hM0]; exact hk.r, hxl, hk.ext, by rw [hM0]; exact hk.le, by rw [hM0]; exact hk.kept, h.en.sz, fun i _ _ h => absurd h (hno i), fun q hq _ => ?_, by rw [hM0]; exact hk.df, fun i s cs hi _ => ?_⟩
    · rw [h4] at hq
      rw [hM0]
      exact hk.en.at_ q hq
    · rw [h3] at hi
      rw [hM0]
      exact (hk.ent _ (aget_mem hi)).2.2.1
  -- the text's order
  let D : Dx := ⟨P, rec, fls, made, ops, fun _ => false, e1, m1⟩
  obtain ⟨s1, s2, s3⟩ := drawOk_spec (made := made) (D := D) hok
  rcases Dx.evalD_text (D := D) (fun _ => rfl) ops.toList.zipIdx 0 [] [] (Lies.zip ops) (Nat.zero_le _) he (fun j hj => by omega) (fun j o hj => by omega) with ⟨rfl, rfl, rfl, hgood⟩ | ⟨i0, hpan⟩
  · have hD : DOk D (cx X p w1 m.hp) n := ⟨s1, s2, s3, fun i hi => hgood i (Nat.zero_le _) hi, hk.en.srt, hd, hmade, hapart⟩
    refine Dx.all_orders (D := D) (X := X) (p00 := p) (w00 := w1) hD hrec (fun i _ h => by cases h) (fun _ t p2 w2 a2 hI => ?_) ops.size _ 0 p1 w1 a (by simp [D]) (by simp) (hinit D rfl rfl rfl rfl rfl)
    obtain ⟨g1, g2⟩ := Dx.fin_ok hD hI
    refine hp0 p2 w2 a2 .normal hI.ext ?_ ?_ g2 rfl
    · have := hI.le; rw [g1] at this; exact this
    · have := hI.kept; rw [g1] at this; exact this
  · let D' : Dx := ⟨P, rec, fls, made, ops, fun i => decide (i0 ≤ i) && (Nat.beq i i0 || D.b i i0), e1, m1⟩
    have hDD : D' = { D with dead := D'.dead } := rfl
    have hlow : ∀ j, j < i0 → D'.dead j = D.dead j := fun j hj => by
      show (decide (i0 ≤ j) && _) = false
      rw [decide_eq_false (by omega)]; rfl
    have hi0 : D'.dead i0 = true := by
      show (decide (i0 ≤ i0) && (Nat.beq i0 i0 || _)) = true
      rw [decide_eq_true (Nat.le_refl _), Nat.beq_refl]; rfl
    have hsz : i0 < ops.size := hpan.lt
    have hKi0 : D'.K i0 = .out := by
      have ho : D'.ops[i0]? = some ops[i0] := Array.getElem?_eq_getElem hsz
      simp only [Dx.K, ho, hi0, if_true]
    have hE : D'.E i0 = D.E i0 := Dx.same_E hDD hlow
    have hM : D'.M i0 = D.M i0 := Dx.same_M hDD hlow
    have hK : ∀ j, j < i0 → D'.K j = D.K j := fun j hj => Dx.same_K hDD fun k hk => hlow k (by omega)
    obtain ⟨r, hist, hr1, hr2, hr3⟩ := hpan.rest
    have hrest := Dx.rest_text (D := D') (i0 := i0) (fun i hi => by
      show (decide (i0 ≤ i) && (Nat.beq i i0 || D.b i i0)) = _
      rw [decide_eq_true (by omega), nbeq (by omega)]; rfl) r (i0 + 1) hist (by omega) hr1 (by show i0 + 1 ≤ ops.size; omega) (fun j h1 h2 => by rw [show j = i0 from by omega, hKi0]; simp) (by
        simp only [Dx.E, Dx.M, Dx.tx_dead hi0]
        change Ai.rest _ _ _ _ _ _ _ _ _ (D'.E i0) (D'.M i0) = _
        rw [hE, hM]; exact hr2) (fun j hj hl => by
        rcases Nat.lt_or_ge j i0 with g | g
        · rw [hK j g] at hl
          rw [Dx.same_M hDD fun k hk => hlow k (by omega)]
          exact hr3 j g hl
        · rw [show j = i0 from by omega, hKi0] at hl; cases hl)
    have hgood : ∀ i, i < ops.size → D'.Good i := fun i hi => by
      rcases Nat.lt_trichotomy i i0 with g | g | g
      · exact Dx.same_good hDD (fun j hj => hlow j (by omega)) (hpan.good i (Nat.zero_le _) g)
      · subst g
        exact ⟨fun h => (by rw [hi0] at h; cases h), fun j _ _ h => (by rw [hKi0] at h; cases h), fun j _ _ h => (by rw [hKi0] at h; cases h)⟩
      · exact (hrest i g hi).1
    have hD : DOk D' (cx X p w1 m.hp) n := ⟨s1, s2, s3, hgood, hk.en.srt, hd, hmade, hapart⟩
    have hPanQ : Dx.PanQ D' X (cx X p w1 m.hp) p w1 n Q i0 := by
      obtain ⟨v, hex, hv⟩ := hpan.pans
      refine ⟨fun o ho => (by rw [hE]; exact hpan.wants o ho), fun j hj hl => hpan.louds j hj (by rw [← hK j hj]; exact hl), fun j hj => ?_, v, m', fun o ho => (by rw [hE, hM]; exact hv o ho), fun p' w' u a' g1 g2 g3 g4 g5 => ?_⟩
      · rcases Nat.lt_or_ge i0 j with g | g
        · rcases Nat.lt_or_ge j ops.size with l | l
          · exact (hrest j g l).2
          · rw [Dx.K_big (D := D') l]; simp
        · rw [show j = i0 from by omega, hKi0]; simp
      · rw [hE] at g4
        subst hex
        refine hp0 p' w' a' _ g1 g2 g3 ?_ ⟨u, rfl, g5⟩
        rw [hpan.env]; exact g4
    refine Dx.all_orders (D := D') (X := X) (p00 := p) (w00 := w1) hD hrec (fun i _ h => ?_) (fun hall => ?_) ops.size _ 0 p1 w1 a (by simp [D']) (by simp) (hinit D' rfl rfl rfl rfl rfl)
    · change (decide (i0 ≤ i) && (Nat.beq i i0 || D.b i i0)) = true at h
      simp only [Bool.and_eq_true, Bool.or_eq_true] at h
      rcases h.2 with g | g
      · have := Nat.eq_of_beq_eq_true g
        subst this
        exact .inr hPanQ
      · exact .inl ⟨i0, g, hi0⟩
    · have := hall i0 hsz
      rw [hi0] at this; cases this
end
end Go.Ai
