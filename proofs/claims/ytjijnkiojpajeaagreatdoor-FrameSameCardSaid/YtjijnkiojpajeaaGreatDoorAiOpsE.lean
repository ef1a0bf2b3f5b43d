/- The abstract interpreter: each operation by itself, fifth part: slices, elements, fields, conversions, assertions. -/
import Derived.Test.YtjijnkiojpajeaaGreatDoorAiOpsD
set_option linter.unusedVariables false
set_option linter.unusedSimpArgs false
set_option linter.unusedSectionVars false
namespace Go.Ai
variable [Glob]
section
variable {P : Program} {rec : Rec} {X : Ctl} {p : Pl} {w : World} {m : Mm} {fl : Option Flag} {ρ : Ro} {a : Act} {o : Oper} {next : Act → World → Prop} {Q : Exit → Act → World → Prop} {r : OR}

/-- A bound of a slice expression. -/
def BRel (v : Option Value) (i : Option Int) : Prop := (v = none ∧ i = none) ∨ ∃ k n, v = some (.int k n) ∧ i = some n
theorem run_bound {k : IntKind} {n : Int} {y : Nat} {code : BoundsCode} (h : 0 ≤ n ∧ n ≤ y) : (Instr.sliceBound (.int k n) y code).run P w = .ok n.toNat w := by
  simp [Instr.sliceBound, asIntOf, h.1, h.2]
theorem run_bounds (isSlice : Bool) {len cap : Nat} {lo hi mx : Option Value} {l h k : Option Int} (hl : BRel lo l) (hh : BRel hi h) (hk : BRel mx k)
    (h0 : 0 ≤ l.getD 0) (h1 : l.getD 0 ≤ h.getD len) (h2 : h.getD len ≤ k.getD cap) (h3 : k.getD cap ≤ cap) (h4 : k.isSome = true → h.isSome = true) :
    (Instr.sliceBounds isSlice len cap lo hi mx).run P w = .ok ((l.getD 0).toNat, (h.getD len).toNat, (k.getD cap).toNat) w := by
  have hb : ∀ (v : Int) (j : IntKind) (y : Nat) (c : BoundsCode), 0 ≤ v → v ≤ y → (Instr.sliceBound (.int j v) y c).run P w = .ok v.toNat w := fun v j y c g1 g2 => run_bound ⟨g1, g2⟩
  rcases hk with ⟨rfl, rfl⟩ | ⟨kk, kn, rfl, rfl⟩ <;> rcases hh with ⟨rfl, rfl⟩ | ⟨hk', hn', rfl, rfl⟩ <;> rcases hl with ⟨rfl, rfl⟩ | ⟨lk, ln, rfl, rfl⟩ <;> simp only [Option.getD_none, Option.getD_some, Option.isSome_none, Option.isSome_some] at * <;> simp only [Instr.sliceBounds]
  · simp
  · rw [Sem.run_bind]; simp [hb ln lk len _ h0 h1]
  · simp [hb hn' hk' cap _ (by omega) h2]
  · simp [hb hn' hk' cap _ (by omega) h2, hb ln lk hn'.toNat _ h0 (by omega)]
  · exact absurd (h4 trivial) (by simp)
  · exact absurd (h4 trivial) (by simp)
  · simp [hb kn kk cap _ (by omega) h3, hb hn' hk' kn.toNat _ (by omega) (by omega)]
  · simp [hb kn kk cap _ (by omega) h3, hb hn' hk' kn.toNat _ (by omega) (by omega), hb ln lk hn'.toNat _ h0 (by omega)]

theorem BRel.of {y : Option Operand} {i : Option Int} (H : Hyp X p w m ρ a) (h : (match y with | none => some none | some y => (opv ρ y).bind fun v => (intv v).map fun p => some p.2) = some i) : BRel (y.map a.eval) i := by
  cases y with
  | none => cases h; exact .inl ⟨rfl, rfl⟩
  | some y =>
    simp only [Option.bind_eq_some_iff, Option.map_eq_some_iff] at h
    obtain ⟨v, h1, q, h2, rfl⟩ := h
    have hv := H.val h1
    rw [intv_eq h2] at hv
    exact .inr ⟨q.1, q.2, by simpa [VRel] using hv, rfl⟩
theorem op_slice (H : Hyp X p w m ρ a) {t : TypeId} {x : Operand} {lo hi mx : Option Operand} (ho : o.op = .slice t x lo hi mx) (he : evalOp P rec fl ρ m o = some r) (hn : Out X p w m fl a o next Q r) : o.wp P a w next Q := by
  simp only [evalOp, ho] at he
  obtain ⟨v, hv, rfl⟩ := ret1_eq he
  simp only [aSlice, Option.bind_eq_some_iff] at hv
  obtain ⟨l, hl, h, hh, k, hk, hv⟩ := hv
  have bl := BRel.of H hl
  have bh := BRel.of H hh
  have bk := BRel.of H hk
  clear hl hh hk
  have fin : ∀ u, (Instr.sliceAt t (a.eval x) (lo.map a.eval) (hi.map a.eval) (mx.map a.eval)).run P w = .ok u w → VRel (cx X p w m.hp) v u → o.wp P a w next Q := by
    intro u hr hu
    exact op_value (v := .v v) (u := u) (w' := w) H (by simp [execOp, ho, hr]) (Quiet.refl w) hu hn
  have arrays : ∀ (n sz : Nat), aSliceA m n sz l h k (ρ x) = some v → (∀ ad, a.eval x = .pointer (some ad) → 0 ≤ l.getD 0 → l.getD 0 ≤ h.getD n → h.getD n ≤ k.getD n → k.getD n ≤ n → (k.isSome = true → h.isSome = true) →
      (Instr.sliceAt t (a.eval x) (lo.map a.eval) (hi.map a.eval) (mx.map a.eval)).run P w =
        .ok (.slice (some (if (k.getD n).toNat = (l.getD 0).toNat then ad else ad.add ((l.getD 0).toNat * sz))) (h.getD n - l.getD 0).toNat (k.getD n - l.getD 0).toNat) w) → o.wp P a w next Q := by
    intro n sz hA run
    have hxr := H.ro x
    unfold aSliceA at hA
    simp only at hA
    split at hA
    · rename_i hc
      obtain ⟨hpos, hroom, h0, h1, h2, h3, h4⟩ := hc
      have hmax : n ≤ maxLen := by unfold room at hroom; unfold maxLen; omega
      split at hA
      · rename_i id off ep e
        simp only [Option.bind_eq_some_iff] at hA
        obtain ⟨cs, hcs, hA⟩ := hA
        split at hA
        · rename_i hq
          cases hA
          rw [e] at hxr
          obtain ⟨b, z, hb, hx⟩ := ptr_cur hxr hcs hq.1
          obtain ⟨us, el, lo', hi', k1, k2, k3, k4, k5⟩ := H.r.hp id cs b z hcs hb
          refine fin _ (run _ hx h0 h1 h2 h3 h4) ?_
          rw [show (k.getD n - l.getD 0).toNat = (k.getD n).toNat - (l.getD 0).toNat from by omega]
          generalize hL : (l.getD 0).toNat = L
          generalize hM : (k.getD n).toNat = M
          have hMn : M ≤ n := by omega
          have hLM : L ≤ M := by omega
          have h5 : L * sz + (M - L) * sz = M * sz := by rw [← Nat.add_mul]; congr 1; omega
          have h6 : M * sz ≤ n * sz := Nat.mul_le_mul_right _ hMn
          have h7 : M ≤ z := Nat.le_trans (Nat.le_mul_of_pos_right _ hpos) (by omega)
          refine ⟨rfl, ep, by simp [cx, hcs, hq.1], Nat.le_refl _, fun _ => .inl ⟨b, z, M - L, if M = L then off else off + L * sz, hb, ?_, fun hp => ?_, Nat.le_refl _, by omega, by omega, by omega⟩⟩
          · simp only [add_plain]
            split <;> simp <;> omega
          · rw [if_neg (by omega)]
        · cases hA
      · rename_i bw cs e
        split at hA
        · rename_i hfit
          cases hA
          rw [e] at hxr
          obtain ⟨ad, us, hx, hok, hr, hcell⟩ := hxr
          refine fin _ (run _ hx h0 h1 h2 h3 h4) ?_
          rw [show (k.getD n - l.getD 0).toNat = (k.getD n).toNat - (l.getD 0).toNat from by omega]
          generalize hL : (l.getD 0).toNat = L
          generalize hM : (k.getD n).toNat = M
          have hMn : M ≤ n := by omega
          have hLM : L ≤ M := by omega
          have hMc : M * sz ≤ cs.length := Nat.le_trans (Nat.mul_le_mul_right _ hMn) hfit
          refine ⟨_, _, rfl, by omega, by omega, ?_, fun hne => ?_⟩
          · rw [List.length_drop, List.length_take, Nat.min_eq_left hMc, ← Nat.sub_mul, Nat.mul_div_cancel _ hpos]
            omega
          · have hlt : L < M := by
              rcases Nat.lt_or_ge L M with h | h
              · exact h
              · exfalso; apply hne
                apply List.drop_eq_nil_of_le
                rw [List.length_take, Nat.min_eq_left hMc]
                exact Nat.mul_le_mul_right _ h
            have hcn : cs ≠ [] := by rintro rfl; simp at hne
            rw [if_neg (by omega)]
            refine ⟨ad.add (L * sz), (us.take (M * sz)).drop (L * sz), rfl, by rw [add_block]; exact hok hcn, (hr.take _).drop _, fun j x hx => ?_⟩
            rw [add_add]
            rw [List.getElem?_drop, List.getElem?_take] at hx
            split at hx
            · exact hcell _ x hx
            · cases hx
        · cases hA
      · cases hA
    · cases hA
  split at hv
  · -- a text
    rename_i hu
    split at hv
    · cases hv
    · rename_i hk0
      have hkn : k = none := by cases k <;> simp_all
      subst hkn
      have hmx : mx.map a.eval = none := by
        rcases bk with ⟨h1, _⟩ | ⟨_, _, _, h1⟩
        · exact h1
        · cases h1
      simp only [Option.bind_eq_some_iff] at hv
      obtain ⟨xv, hx, s, hs, hv⟩ := hv
      have hxr := H.val hx
      rw [strv_eq hs] at hxr
      simp only [VRel] at hxr
      unfold aSliceStr at hv
      simp only at hv
      split at hv
      · rename_i hc
        cases hv
        refine fin _ ?_ rfl
        have hb := run_bounds (P := P) (w := w) false (len := s.size) (cap := s.size) bl bh (mx := none) (k := none) (.inl ⟨rfl, rfl⟩) hc.1 hc.2.1 hc.2.2 (Int.le_refl _) (by simp)
        simp [Instr.sliceAt, run_underlying hu, Instr.slice, hxr, hmx, hb]
      · cases hv
  · -- a slice
    rename_i e hu
    simp only [Option.bind_eq_some_iff] at hv
    obtain ⟨n, hs, xv, hx, hv⟩ := hv
    have hxr := H.val hx
    have run : ∀ A len cap, a.eval x = .slice A len cap → 0 ≤ l.getD 0 → l.getD 0 ≤ h.getD len → h.getD len ≤ k.getD cap → k.getD cap ≤ cap → (k.isSome = true → h.isSome = true) →
        (Instr.sliceAt t (a.eval x) (lo.map a.eval) (hi.map a.eval) (mx.map a.eval)).run P w =
          .ok (.slice (if (k.getD cap).toNat = (l.getD 0).toNat then A else A.map (·.add ((l.getD 0).toNat * n))) (h.getD len - l.getD 0).toNat (k.getD cap - l.getD 0).toNat) w := by
      intro A len cap hA g0 g1 g2 g3 g4
      rw [show (h.getD len - l.getD 0).toNat = (h.getD len).toNat - (l.getD 0).toNat from by omega, show (k.getD cap - l.getD 0).toNat = (k.getD cap).toNat - (l.getD 0).toNat from by omega]
      simp [Instr.sliceAt, run_underlying hu, Instr.slice, hA, run_bounds (P := P) (w := w) true bl bh bk g0 g1 g2 g3 g4, run_sizeOf hs]
    unfold aSliceS at hv
    simp only at hv
    split at hv
    · split at hv
      · rename_i hc
        cases hv
        simp only [VRel] at hxr
        have := run none 0 0 hxr (by omega) (by rcases h with _ | h <;> simp_all) (by rcases k with _ | k <;> rcases h with _ | h <;> simp_all) (by rcases k with _ | k <;> simp_all) hc.2.2.2
        refine fin _ this ?_
        have q1 : h.getD ((0 : Nat) : Int) = 0 := hc.2.1
        have q2 : k.getD ((0 : Nat) : Int) = 0 := hc.2.2.1
        rw [q1, q2, hc.1]
        simp [VRel]
      · cases hv
    · rename_i b sz len cells
      split at hv
      · rename_i hc
        obtain ⟨rfl, hpos, h0, h1, h2, h3, h4⟩ := hc
        cases hv
        obtain ⟨A, cap, hxe, hle, hcm, hcl, hcells⟩ := hxr
        -- the bound at what the model knows
        have hk2 : k.getD (cells.length / sz : Nat) ≤ k.getD cap ∧ k.getD cap ≤ cap := by
          rcases k with _ | k
          · simp only [Option.getD_none]; omega
          · simp only [Option.getD_some] at h3 ⊢; omega
        refine fin _ (run A len cap hxe h0 h1 (by omega) hk2.2 h4) ?_
        rw [show (k.getD cap - l.getD 0).toNat = (k.getD cap).toNat - (l.getD 0).toNat from by omega]
        generalize hL : (l.getD 0).toNat = L
        generalize hM : (k.getD (cells.length / sz : Nat)).toNat = M
        generalize hM2 : (k.getD cap).toNat = M2
        have hMM : M ≤ M2 := by omega
        have hLM : L ≤ M := by omega
        have hMc : M * sz ≤ cells.length := Nat.le_trans (Nat.mul_le_mul_right _ (show M ≤ cells.length / sz by omega)) (Nat.div_mul_le_self _ _)
        refine ⟨_, _, rfl, by omega, by omega, ?_, fun hne => ?_⟩
        · rw [List.length_drop, List.length_take, Nat.min_eq_left hMc, ← Nat.sub_mul, Nat.mul_div_cancel _ hpos]
          omega
        · have hlt : L < M := by
            rcases Nat.lt_or_ge L M with h | h
            · exact h
            · exfalso; apply hne
              apply List.drop_eq_nil_of_le
              rw [List.length_take, Nat.min_eq_left hMc]
              exact Nat.mul_le_mul_right _ h
          have hcn : cells ≠ [] := by rintro rfl; simp at hne
          obtain ⟨ad, us, rfl, hok, hr, hcell⟩ := hcells hcn
          rw [if_neg (by omega)]
          refine ⟨ad.add (L * sz), (us.take (M * sz)).drop (L * sz), rfl, by rw [add_block]; exact hok, (hr.take _).drop _, fun j x hx => ?_⟩
          rw [add_add]
          rw [List.getElem?_drop, List.getElem?_take] at hx
          split at hx
          · exact hcell _ x hx
          · cases hx
      · cases hv
    · rename_i id off sz len acap ep
      simp only [Option.bind_eq_some_iff] at hv
      obtain ⟨cs, hc, hv⟩ := hv
      split at hv
      · rename_i hq
        obtain ⟨hl, rfl, hpos, hla, hfit, h0, h1, h2, h3, h4⟩ := hq
        cases hv
        rcases own_cur hxr hc hl with ⟨b, z, cap, o', hb, hxe, ho', hac, hcm, hlc, hz⟩ | ⟨hb, hz, hxe, rfl, rfl, rfl⟩
        · have hk2 : k.getD acap ≤ k.getD cap ∧ k.getD cap ≤ cap := by
            rcases k with _ | k
            · simp only [Option.getD_none]; omega
            · simp only [Option.getD_some] at h3 ⊢; omega
          refine fin _ (run _ len cap hxe h0 h1 (by omega) hk2.2 h4) ?_
          rw [show (k.getD cap - l.getD 0).toNat = (k.getD cap).toNat - (l.getD 0).toNat from by omega, show (k.getD acap - l.getD 0).toNat = (k.getD acap).toNat - (l.getD 0).toNat from by omega]
          generalize hL : (l.getD 0).toNat = L
          generalize hM : (k.getD acap).toNat = M
          generalize hM2 : (k.getD cap).toNat = M2
          have hM2c : M2 ≤ cap := by omega
          have hLM2 : L ≤ M2 := by omega
          refine ⟨?_, ep, by simp [cx, hc, hl], Nat.le_refl _, fun _ => .inl ⟨b, z, M2 - L, if M2 = L then o' else o' + L * sz, hb, ?_, fun hp => ?_, by omega, by omega, by omega, ?_⟩⟩
          · split <;> rfl
          · simp only [Option.map_some, add_plain]
            split <;> simp <;> omega
          · rw [if_neg (by omega), ho' (by omega)]
          · have h5 : L * sz + (M2 - L) * sz = M2 * sz := by rw [← Nat.add_mul]; congr 1; omega
            have h6 : M2 * sz ≤ cap * sz := Nat.mul_le_mul_right _ hM2c
            omega
        · have g1 : h.getD (0 : Nat) = 0 := by
            have : k.getD (0 : Nat) ≤ 0 := h3
            omega
          have g2 : k.getD (0 : Nat) = 0 := by
            have : k.getD (0 : Nat) ≤ 0 := h3
            omega
          have g3 : l.getD 0 = 0 := by omega
          refine fin _ (run none 0 0 hxe h0 h1 h2 h3 h4) ?_
          simp only [g1, g2, g3]
          exact ⟨rfl, 0, by simp [cx, hc, hz], by omega, fun _ => .inr ⟨hb, rfl, rfl, rfl, rfl, by simp⟩⟩
      · cases hv
    · cases hv
  · -- an array behind a pointer
    rename_i arr hu
    split at hv
    · rename_i n e hu2
      simp only [Option.bind_eq_some_iff] at hv
      obtain ⟨sz, hs, hv⟩ := hv
      refine arrays n sz hv fun ad hx g0 g1 g2 g3 g4 => ?_
      rw [show (h.getD n - l.getD 0).toNat = (h.getD n).toNat - (l.getD 0).toNat from by omega, show (k.getD n - l.getD 0).toNat = (k.getD n).toNat - (l.getD 0).toNat from by omega]
      simp [Instr.sliceAt, run_underlying hu, Instr.slice, hx, asAddr, run_underlying hu2, run_bounds (P := P) (w := w) false bl bh bk g0 g1 g2 g3 g4, run_sizeOf hs]
    · cases hv
  · rename_i n e hu
    simp only [Option.bind_eq_some_iff] at hv
    obtain ⟨sz, hs, hv⟩ := hv
    refine arrays n sz hv fun ad hx g0 g1 g2 g3 g4 => ?_
    rw [show (h.getD n - l.getD 0).toNat = (h.getD n).toNat - (l.getD 0).toNat from by omega, show (k.getD n - l.getD 0).toNat = (k.getD n).toNat - (l.getD 0).toNat from by omega]
    simp [Instr.sliceAt, run_underlying hu, hx, Instr.sureAddr, run_bounds (P := P) (w := w) false bl bh bk g0 g1 g2 g3 g4, run_sizeOf hs]
  · cases hv
end
end Go.Ai
