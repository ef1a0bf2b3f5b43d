/- The abstract interpreter: regions in the text's order. -/
import Derived.Test.YtjijnkiojpajeaaGreatDoorAiCongr
set_option linter.unusedVariables false
set_option linter.unusedSimpArgs false
set_option linter.unusedSectionVars false
namespace Go.Ai
variable [Glob]

/-! ### environments -/
def Srt {β : Type} (l : List (Nat × β)) : Prop := l.Pairwise fun a b => a.1 < b.1
theorem mem_aset {β : Type} : ∀ {l : List (Nat × β)} {i : Nat} {v : β} {q : Nat × β}, Srt l → q ∈ aset l i v → q = (i, v) ∨ (q ∈ l ∧ q.1 ≠ i)
  | [], i, v, q, _, h => by
    simp only [aset, List.mem_singleton] at h
    exact .inl h
  | (k, w) :: r, i, v, q, hs, h => by
    simp only [aset] at h
    have hs1 := List.pairwise_cons.1 hs
    by_cases hk : k = i
    · subst hk
      rw [Nat.beq_refl] at h
      simp only [cond, List.mem_cons] at h
      rcases h with h | h
      · exact .inl h
      · have := hs1.1 q h
        exact .inr ⟨.tail _ h, by omega⟩
    · rw [nbeq hk] at h
      simp only [cond] at h
      cases hb : Nat.ble i k with
      | true =>
        rw [hb] at h
        have hle := Nat.le_of_ble_eq_true hb
        simp only [List.mem_cons] at h
        rcases h with h | h | h
        · exact .inl h
        · subst h; exact .inr ⟨.head _, hk⟩
        · have := hs1.1 q h
          exact .inr ⟨.tail _ h, by omega⟩
      | false =>
        rw [hb] at h
        simp only [List.mem_cons] at h
        rcases h with h | h
        · subst h; exact .inr ⟨.head _, hk⟩
        · rcases mem_aset hs1.2 h with h | h
          · exact .inl h
          · exact .inr ⟨.tail _ h.1, h.2⟩
theorem srt_aset {β : Type} : ∀ {l : List (Nat × β)} {i : Nat} {v : β}, Srt l → Srt (aset l i v)
  | [], i, v, _ => by simp [aset, Srt]
  | (k, w) :: r, i, v, hs => by
    have hs1 := List.pairwise_cons.1 hs
    simp only [aset]
    by_cases hk : k = i
    · subst hk
      rw [Nat.beq_refl]
      exact List.pairwise_cons.2 ⟨hs1.1, hs1.2⟩
    · rw [nbeq hk]
      simp only [cond]
      cases hb : Nat.ble i k with
      | true =>
        have hle := Nat.le_of_ble_eq_true hb
        refine List.pairwise_cons.2 ⟨fun q hq => ?_, hs⟩
        simp only [List.mem_cons] at hq
        rcases hq with hq | hq
        · subst hq; show i < k; omega
        · have := hs1.1 q hq
          show i < q.1
          simp only at this
          omega
      | false =>
        have hlt : k < i := by
          rcases Nat.lt_or_ge k i with h | h
          · exact h
          · exact absurd (Nat.ble_eq_true_of_le h) (by simp [hb])
        refine List.pairwise_cons.2 ⟨fun q hq => ?_, srt_aset hs1.2⟩
        rcases mem_aset hs1.2 hq with h | h
        · subst h; exact hlt
        · exact hs1.1 q h.1
theorem aget_mem {β : Type} : ∀ {l : List (Nat × β)} {i : Nat} {v : β}, aget l i = some v → (i, v) ∈ l
  | [], i, v, h => by cases h
  | (k, w) :: r, i, v, h => by
    simp only [aget] at h
    by_cases hk : k = i
    · subst hk
      rw [Nat.beq_refl] at h
      cases h
      exact .head _
    · rw [nbeq hk] at h
      exact .tail _ (aget_mem h)
theorem eget_eput {e : Env} {d t : Nat} {v : SV} : eget (eput e (some d) v) t = if d = t then v else eget e t := by
  simp only [eget, eput, aget_aset]
  split <;> rfl

structure ERel (c : Cx) (p : Pl) (n : Nat) (e : Env) (a : Act) : Prop where
  sz : n ≤ a.tmps.size
  srt : Srt e
  at_ : ∀ q ∈ e, SRelV c p q.2 (a.tmps.getD q.1 undef)
theorem ERel.get {c : Cx} {p : Pl} {n : Nat} {e : Env} {a : Act} (h : ERel c p n e a) (t : Nat) : SRelV c p (eget e t) (a.tmps.getD t undef) := by
  unfold eget
  cases hg : aget e t with
  | none => exact trivial
  | some v => exact h.at_ _ (aget_mem hg)
theorem ERel.filter {c : Cx} {p : Pl} {n : Nat} {e : Env} {a : Act} (h : ERel c p n e a) (f : Nat × SV → Bool) : ERel c p n (e.filter f) a :=
  ⟨h.sz, List.Pairwise.filter _ h.srt, fun q hq => h.at_ q (List.mem_filter.1 hq).1⟩
theorem ERel.mono {c c' : Cx} {p p' : Pl} {n : Nat} {e : Env} {a : Act} (h : ERel c p n e a) (hle : c.le c') (hl : ∀ q ∈ e, ∀ k off, q.2 = .l k off → p'.rl k = p.rl k) : ERel c' p' n e a :=
  ⟨h.sz, h.srt, fun q hq => (h.at_ q hq).mono hle (hl q hq)⟩
theorem ERel.put {c : Cx} {p : Pl} {n : Nat} {e : Env} {a : Act} (h : ERel c p n e a) {dst : Option Tmp} {v : SV} {u : Value} (hv : SRelV c p v u) (hd : ∀ d, dst = some d → d < n) (ds : List Deferred) :
    ERel c p n (eput e dst v) (({ a with defers := ds } : Act).put dst u) := by
  cases dst with
  | none => exact ⟨h.sz, h.srt, h.at_⟩
  | some d =>
    have hdn := hd d rfl
    have hsz := h.sz
    refine ⟨by simpa [Act.put] using h.sz, srt_aset h.srt, fun q hq => ?_⟩
    rcases mem_aset h.srt hq with rfl | ⟨h1, h2⟩
    · simp only [Act.put]
      rw [show (a.tmps.setIfInBounds d u).getD d undef = u from by rw [Array.getD_eq_getD_getElem?, Array.getElem?_setIfInBounds, if_pos rfl, if_pos (Nat.lt_of_lt_of_le hdn hsz)]; rfl]
      exact hv
    · simp only [Act.put]
      rw [show (a.tmps.setIfInBounds d u).getD q.1 undef = a.tmps.getD q.1 undef from by
        simp [Array.getD_eq_getD_getElem?, Array.getElem?_setIfInBounds, Ne.symm h2]]
      exact h.at_ q h1
theorem edrop_mem {k : Nat} : ∀ {e : Env} {q : Nat × SV}, q ∈ edrop e k → ∃ q' ∈ e, q.1 = q'.1 ∧ q.2 = unl k q'.2
  | (i, s) :: r, q, h => by
    simp only [edrop, List.mem_cons] at h
    rcases h with rfl | h
    · exact ⟨_, .head _, rfl, rfl⟩
    · obtain ⟨q', h1, h2⟩ := edrop_mem h
      exact ⟨q', .tail _ h1, h2⟩
theorem edrop_srt {k : Nat} : ∀ {e : Env}, Srt e → Srt (edrop e k)
  | [], h => h
  | (i, s) :: r, h => by
    obtain ⟨h1, h2⟩ := List.pairwise_cons.1 h
    refine List.pairwise_cons.2 ⟨fun q hq => ?_, edrop_srt h2⟩
    obtain ⟨q', g1, g2, _⟩ := edrop_mem hq
    rw [g2]
    exact h1 q' g1
theorem unl_rel {c : Cx} {p : Pl} {k : Nat} {u : Value} : ∀ {s : SV}, SRelV c p s u → SRelV c p (unl k s) u
  | .v a, h => h
  | .l k' off, h => by
    simp only [unl]
    cases Nat.beq k' k with
    | true => exact trivial
    | false => exact h
theorem ERel.edrop {c : Cx} {p : Pl} {n : Nat} {e : Env} {a : Act} (h : ERel c p n e a) (k : Nat) : ERel c p n (edrop e k) a :=
  ⟨h.sz, edrop_srt h.srt, fun q hq => by
    obtain ⟨q', g1, g2, g3⟩ := edrop_mem hq
    rw [g2, g3]
    exact unl_rel (h.at_ q' g1)⟩
theorem ERel.dropFor {c : Cx} {p : Pl} {n : Nat} {e : Env} {a : Act} (h : ERel c p n e a) (fl : Option Flag) : ERel c p n (dropFor fl e) a := by
  unfold Ai.dropFor
  split
  · exact h.edrop _
  · exact h
theorem edrop_rl {k : Nat} {e : Env} {q : Nat × SV} (h : q ∈ edrop e k) {j off : Nat} (hq : q.2 = .l j off) : j ≠ k := by
  obtain ⟨q', _, _, g3⟩ := edrop_mem h
  rw [hq] at g3
  cases hs : q'.2 with
  | v a => rw [hs] at g3; cases g3
  | l k' o =>
    rw [hs] at g3
    simp only [unl] at g3
    cases hb : Nat.beq k' k with
    | true => rw [hb] at g3; cases g3
    | false =>
      rw [hb] at g3
      cases g3
      rintro rfl
      rw [Nat.beq_refl] at hb
      cases hb
theorem dropFor_rl {fl : Option Flag} {e : Env} {q : Nat × SV} (h : q ∈ dropFor fl e) : ∀ k off, q.2 = .l k off → isSite fl k = false := by
  unfold dropFor at h
  split at h
  · exact fun k off e => nbeq (edrop_rl h e).symm
  · intro k off e
    rename_i hne
    cases fl with
    | none => rfl
    | some x =>
      cases x with
      | site j => exact absurd rfl (hne j)
      | _ => rfl
theorem vget_rel {c : Cx} {p : Pl} {n : Nat} {e : Env} {a : Act} (h : ERel c p n e a) (t : Nat) : VRel c (vget e t) (a.tmps.getD t undef) := by
  have := h.get t
  unfold vget
  cases hs : eget e t with
  | v x => rw [hs] at this; exact this
  | l k o => exact trivial
theorem aset_in {l : Env} (hs : Srt l) {i : Nat} {v : SV} {q : Nat × SV} (h : q ∈ aset l i v) : q = (i, v) ∨ q ∈ l := by
  rcases mem_aset hs h with h | h
  · exact .inl h
  · exact .inr h.1
theorem recut_rel {c : Cx} {p : Pl} {n : Nat} {e : Env} {a : Act} (h : ERel c p n e a) : ∀ (l : List (Nat × Bool)) (acc : Env), ERel c p n acc a → ERel c p n (recutIn e l acc) a
  | [], acc, k => k
  | (i, b) :: r, acc, k => recut_rel h r _ ⟨h.sz, srt_aset k.srt, fun q hq => by
    rcases aset_in k.srt hq with rfl | hq
    · cases b with
      | true => exact vget_rel h i
      | false => exact h.get i
    · exact k.at_ q hq⟩
theorem ERel.recut {c : Cx} {p : Pl} {n : Nat} {e : Env} {a : Act} (h : ERel c p n e a) (l : List (Nat × Bool)) : ERel c p n (recut l e) a :=
  recut_rel h l [] ⟨h.sz, List.Pairwise.nil, fun _ hq => (by cases hq)⟩
theorem ERel.cutBy {c : Cx} {p : Pl} {n : Nat} {e : Env} {a : Act} (h : ERel c p n e a) (l : List (Nat × List (Nat × Bool))) (id : Nat) : ERel c p n (cutBy l id e) a := by
  unfold Ai.cutBy
  split
  · exact h.recut _
  · exact h

/-! ### states -/
structure SOk (X : Ctl) (p : Pl) (w : World) (m : Mm) (e : Env) (n : Nat) (a : Act) : Prop where
  r : MRel X p w m
  lt : ∀ blk, X.Mut blk → blk < w.heap.size
  en : ERel (cx X p w m.hp) p n e a
  df : DRel (cx X p w m.hp) m.dfs a.defers
def ExRel (c : Cx) : Ex → Exit → Prop
  | .normal, x => x = .normal
  | .exit i, x => x = .exit i
  | .ret, x => x = .ret
  | .pan v, x => ∃ u, x = .panic [{ v := u, recovered := false }] ∧ VRel c v u
def Post (Q : Exit → Act → World → Prop) (X : Ctl) (p : Pl) (w : World) (hp : Heap) (ex : Ex) (e' : Env) (m' : Mm) (n : Nat) : Prop :=
  ∀ p' w' a' x, Ext p w p' w' → (cx X p w hp).le (cx X p' w' m'.hp) → Kept (cx X p w hp) (cx X p' w' m'.hp) → SOk X p' w' m' e' n a' → ExRel (cx X p' w' m'.hp) ex x → Q x a' w'
section
variable {P : Program} {rec : Rec} {X : Ctl} {p p1 : Pl} {w w1 : World} {m : Mm} {e : Env} {n : Nat} {a : Act} {Q : Exit → Act → World → Prop}
theorem Post.step {hp hp1 : Heap} {ex : Ex} {e' : Env} {m' : Mm} (h : Post Q X p w hp ex e' m' n) (he : Ext p w p1 w1) (hle : (cx X p w hp).le (cx X p1 w1 hp1)) (hk : Kept (cx X p w hp) (cx X p1 w1 hp1)) : Post Q X p1 w1 hp1 ex e' m' n :=
  fun p' w' a' x h1 h2 h3 h4 h5 => h p' w' a' x (he.trans h1) (hle.trans h2) (hk.trans hle h2 h3) h4 h5
theorem VRels_sc {c : Cx} : ∀ {us : List Value}, (∀ v ∈ us, v.oneCell' = true) → VRels c (us.map .sc) us
  | [], _ => rfl
  | v :: r, h => ⟨v, r, rfl, rfl, h v (.head _), VRels_sc fun x hx => h x (.tail _ hx)⟩
theorem VRel.opd {c : Cx} (hg : GlOk c) (h : ERel c p n e a) (x : Operand) : SRelV c p (opd e x) (a.eval x) := by
  cases x with
  | tmp t => exact h.get t
  | const v => exact VRel.toAV c v
  | global g =>
    simp only [Ai.opd]
    cases hgl : Glob.gl g with
    | none => rfl
    | some us =>
      obtain ⟨h1, h2, h3⟩ := hg g us hgl
      refine ⟨⟨g, 0, none⟩, us, rfl, fun _ => h1, VRels_sc h2, fun j x hx => ?_⟩
      rw [add_plain, Nat.zero_add]
      exact h3 j x hx
  | func f => exact ⟨[], [], rfl, rfl, rfl⟩
theorem SOk.hyp (h : SOk X p w m e n a) : Hyp X p w m (opd e) a := ⟨h.r, h.lt, fun x => VRel.opd h.r.gl h.en x, h.df⟩
theorem awanted_sound {c : Cx} {ops : Array Oper} {o : Oper} (h : ERel c p n e a) {b : Bool} (hb : awanted ops e o = some b) : Region.wanted o (yielded ops a.tmps) = b := by
  unfold awanted at hb
  unfold Region.wanted
  split at hb
  · rename_i hg
    rw [hg]
    cases hb; rfl
  · rename_i j want hg
    rw [hg]
    simp only
    split at hb
    · rename_i hd
      cases hb
      simp [yielded, hd]
    · rename_i d hd
      have hs := h.get d
      split at hb
      · rename_i b' hv
        cases hb
        rw [hv] at hs
        have hs : a.tmps.getD d undef = .bool b' := hs
        have : a.tmps[d]? = some (.bool b') := by
          rw [Array.getD_eq_getD_getElem?] at hs
          cases hx : a.tmps[d]? with
          | none => rw [hx] at hs; cases hs
          | some v => rw [hx] at hs; simp only [Option.getD_some] at hs; rw [hs]
        simp [yielded, hd, this]
      · rename_i vs hv
        cases hb
        rw [hv] at hs
        obtain ⟨us, hs, _⟩ := hs
        have : ∀ b', a.tmps[d]? ≠ some (.bool b') := by
          intro b' hx
          rw [Array.getD_eq_getD_getElem?, hx] at hs
          cases hs
        have hy : yielded ops a.tmps j = none := by
          unfold yielded
          rw [hd]
          simp only [Option.bind_some]
        rw [hy]
        cases want <;> rfl
      · cases hb
/-- One step of the text's order. -/
theorem SOk.goes (h : SOk X p w m e n a) {o : Oper} {fl : Option Flag} (hd : ∀ d, o.dst = some d → d < n) {v : SV} {m' : Mm} {ex : Ex} {e' : Env} {mf : Mm} {K : Act → World → Prop}
    (hp : Post Q X p w m.hp ex e' mf n) (hk : ∀ p1 w1 a1, SOk X p1 w1 m' (eput (dropFor fl e) o.dst v) n a1 → Post Q X p1 w1 m'.hp ex e' mf n → K a1 w1) : Goes X p w m fl a o K v m' := by
  intro p' w' ds' u h1 h2 h3 h4 h5 h6 h7
  refine hk p' w' _ ⟨h4, fun blk hb => Nat.lt_of_lt_of_le (h.lt blk hb) h1.size, ?_, ?_⟩ (hp.step h1 h2 h3)
  · refine ERel.put ?_ h7 hd ds'
    exact ERel.mono (c := cx X p w m.hp) (p := p) (h.en.dropFor fl) h2 fun q hq k off hq' => h6 k (dropFor_rl hq k off hq')
  · cases o.dst <;> exact h5
theorem evalOps_sound (hrec : RecOk P rec) {fls : List (Nat × Flag)} {ops : Array Oper} (hd : ∀ (i : Nat) (o : Oper), ops[i]? = some o → ∀ d, o.dst = some d → d < n) {ex : Ex} {e' : Env} {m' : Mm} :
    ∀ (l : List (Oper × Nat)) (e : Env) (m : Mm) (p : Pl) (w : World) (a : Act), (∀ q ∈ l, ops[q.2]? = some q.1) → SOk X p w m e n a → evalOps P rec fls ops l e m = some (ex, e', m') → Post Q X p w m.hp ex e' m' n →
      wpOps P ops Q (l.map (·.2)) a w
  | [], e, m, p, w, a, _, h, he, hp => by
    simp only [evalOps, Option.some.injEq, Prod.mk.injEq] at he
    obtain ⟨rfl, rfl, rfl⟩ := he
    exact hp p w a .normal (Ext.refl p w) (Cx.le.refl _) (.same fun _ h => h) h rfl
  | (o, i) :: r, e, m, p, w, a, hl, h, he, hp => by
    have ho : ops[i]? = some o := hl (o, i) (.head _)
    have hr : ∀ q ∈ r, ops[q.2]? = some q.1 := fun q hq => hl q (.tail _ hq)
    simp only [List.map_cons, wpOps, ho]
    simp only [evalOps, Option.bind_eq_some_iff] at he
    obtain ⟨b, hb, he⟩ := he
    rw [awanted_sound h.en hb]
    cases b with
    | false =>
      simp only [Bool.false_eq_true, if_false]
      simp only at he
      refine evalOps_sound hrec hd r (eput e o.dst (.v (.tup []))) m p w _ hr ⟨h.r, h.lt, ?_, ?_⟩ he hp
      · exact ERel.put (v := .v (.tup [])) (u := undef) h.en ⟨[], rfl, rfl⟩ (hd i o ho) a.defers
      · have := h.df
        cases o.dst <;> exact this
    | true =>
      simp only [if_true]
      left
      simp only [Option.bind_eq_some_iff] at he
      obtain ⟨x, hx, he⟩ := he
      refine evalOp_sound (r := x) h.hyp hrec hx ?_
      cases x with
      | val v m1 =>
        simp only at he
        exact h.goes (hd i o ho) hp fun p1 w1 a1 h1 hp1 => evalOps_sound hrec hd r _ m1 p1 w1 a1 hr h1 he hp1
      | pan v m1 =>
        simp only [Option.some.injEq, Prod.mk.injEq] at he
        obtain ⟨rfl, rfl, rfl⟩ := he
        intro p' w' u h1 h2 h3 h4 h5 h6 h7
        exact hp p' w' a _ h1 h2 h3 ⟨h4, fun blk hb => Nat.lt_of_lt_of_le (h.lt blk hb) h1.size, h.en.mono h2 fun q _ k _ _ => h6 k, h5⟩ ⟨u, rfl, h7⟩
end
end Go.Ai
