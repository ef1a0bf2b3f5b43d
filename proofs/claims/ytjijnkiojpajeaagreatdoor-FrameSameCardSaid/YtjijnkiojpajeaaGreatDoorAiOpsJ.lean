/- The abstract interpreter: the other builtins, texts gone through, deferred calls; and all operations together. -/
import Derived.Test.YtjijnkiojpajeaaGreatDoorAiCall
set_option linter.unusedVariables false
set_option linter.unusedSimpArgs false
set_option linter.unusedSectionVars false
namespace Go.Ai
variable [Glob]
section
variable {P : Program} {rec : Rec} {X : Ctl} {p : Pl} {w : World} {m : Mm} {fl : Option Flag} {ρ : Ro} {a : Act} {o : Oper} {next : Act → World → Prop} {Q : Exit → Act → World → Prop} {r : OR}

theorem aLenS_rel {v : AV} {n : Nat} {u : Value} (h : aLenS m v = some n) (r : VRel (cx X p w m.hp) v u) : ∃ A cap, u = .slice A n cap := by
  unfold aLenS at h
  split at h
  · cases h; simp only [VRel] at r; exact ⟨_, _, r⟩
  · cases h; obtain ⟨A, cap, e, _⟩ := r; exact ⟨A, cap, e⟩
  · simp only [Option.bind_eq_some_iff] at h
    obtain ⟨cs, hc, h⟩ := h
    split at h
    · rename_i hl
      cases h
      rcases own_cur r hc hl with ⟨b, z, cap, o', hb, e, _⟩ | ⟨_, _, e, e2, _⟩
      · exact ⟨_, _, e⟩
      · rw [e2]; exact ⟨_, _, e⟩
    · cases h
  · cases h
theorem min_rel {op : Builtin} {x y v : AV} (h : aMin op x y = some v) : ∃ ux uy uv, x = .sc ux ∧ y = .sc uy ∧ v = .sc uv ∧ (op = .min → ∀ w, (Builtin.min2 ux uy).run P w = .ok uv w) ∧ (op = .max → ∀ w, (Builtin.max2 ux uy).run P w = .ok uv w) := by
  unfold aMin at h
  split at h
  · split at h
    · rename_i e
      subst e
      cases h
      exact ⟨_, _, _, rfl, rfl, rfl, fun _ w => by simp [Builtin.min2], fun e => by cases e⟩
    · cases h
  · split at h
    · rename_i e
      subst e
      cases h
      exact ⟨_, _, _, rfl, rfl, rfl, (fun e => by cases e), fun _ w => by simp [Builtin.max2]⟩
    · cases h
  · cases h
theorem mins_rel {c : Cx} {op : Builtin} : ∀ {ys : List AV} {us : List Value} {x v : AV} {ux : Value}, aMins op x ys = some v → VRel c x ux → VRelT c ys us → ∃ uv, VRel c v uv ∧ (op = .min → ∀ w, (us.foldlM Builtin.min2 ux).run P w = .ok uv w) ∧ (op = .max → ∀ w, (us.foldlM Builtin.max2 ux).run P w = .ok uv w)
  | [], us, x, v, ux, h, hx, hy => by
    cases h; cases hy
    exact ⟨ux, hx, fun _ w => by simp, fun _ w => by simp⟩
  | y :: ys, us, x, v, ux, h, hx, hy => by
    obtain ⟨uy, us', rfl, h1, h2⟩ := hy
    simp only [aMins, Option.bind_eq_some_iff] at h
    obtain ⟨z, hz, h⟩ := h
    obtain ⟨vx, vy, vz, rfl, rfl, rfl, g1, g2⟩ := min_rel (P := P) hz
    simp only [VRel] at hx h1
    subst hx h1
    obtain ⟨uv, k1, k2, k3⟩ := mins_rel (ux := vz) h rfl h2
    exact ⟨uv, k1, fun e w => by simp [g1 e, k2 e], fun e w => by simp [g2 e, k3 e]⟩

theorem op_builtin (H : Hyp X p w m ρ a) {c : Call} {b : Builtin} (ho : o.op = .call c) (hcal : c.callee = .builtin b) (he : aBuiltin P ρ m b c = some r) (hn : Out X p w m fl a o next Q r) : o.wp P a w next Q := by
  unfold aBuiltin at he
  split at he
  · -- len
    rename_i x t hargs hty
    have hargs' : c.args = #[x] := by rw [← Array.toArray_toList (xs := c.args), hargs]
    have hty' : c.argTypes = #[t] := by rw [← Array.toArray_toList (xs := c.argTypes), hty]
    have fin : ∀ (n : Nat), (Builtin.len_ #[t] o.type #[a.eval x]).run P w = .ok (.int .i64 n) w → Out X p w m fl a o next Q (.val (.v (mkInt n)) m) → o.wp P a w next Q := by
      intro n hr hn
      exact op_value (v := .v (mkInt n)) (u := .int .i64 n) (w' := w) H (by simp [execOp, ho, resolve, hcal, hargs', hty', invoke, builtin, hr]) (Quiet.refl w) rfl hn
    split at he
    · rename_i hu
      obtain ⟨v, hv, rfl⟩ := ret1_eq he
      simp only [Option.bind_eq_some_iff, Option.map_eq_some_iff] at hv
      obtain ⟨xv, hx, s, hs, rfl⟩ := hv
      have hxr := H.val hx
      rw [strv_eq hs] at hxr
      simp only [VRel] at hxr
      exact fin s.size (by simp [Builtin.len_, run_underlying hu, hxr, goInt]) hn
    · rename_i e hu
      obtain ⟨v, hv, rfl⟩ := ret1_eq he
      simp only [Option.bind_eq_some_iff, Option.map_eq_some_iff] at hv
      obtain ⟨xv, hx, n, hl, rfl⟩ := hv
      obtain ⟨A, cap, hxe⟩ := aLenS_rel hl (H.val hx)
      exact fin n (by simp [Builtin.len_, run_underlying hu, hxe, goInt]) hn
    · rename_i n e hu
      obtain ⟨v, hv, rfl⟩ := ret1_eq he
      cases hv
      exact fin n (by simp [Builtin.len_, run_underlying hu, goInt]) hn
    · rename_i arr hu
      split at he
      · rename_i n e hu2
        obtain ⟨v, hv, rfl⟩ := ret1_eq he
        cases hv
        exact fin n (by simp [Builtin.len_, run_underlying hu, run_underlying hu2, goInt]) hn
      · cases he
    · cases he
  · -- append
    rename_i x y t t' hargs hty
    split at he
    · cases he
    · rename_i d hd hu2
      simp only [Option.bind_eq_some_iff] at he
      obtain ⟨e, hu, n, hs, by_, hby, z, hz, zc, hzc, he⟩ := he
      split at he
      · rename_i hzl
        simp only [Option.bind_eq_some_iff, Option.map_eq_some_iff] at he
        obtain ⟨xv, hx, yv, hy, q, hq, rfl⟩ := he
        unfold elemT at hu
        split at hu
        · rename_i e' hu'
          cases hu
          exact op_append H ho hcal hargs hty hu2 (fun k e => hd k e) hu' hs hby hz hzc hzl hx hy hq hn
        · cases hu
      · cases he
    · cases he
  · -- copy
    rename_i x y t tys hargs hty
    simp only [Option.bind_eq_some_iff] at he
    obtain ⟨e, hu, n, hs, xv, hx, yv, hy, he⟩ := he
    unfold elemT at hu
    split at hu
    · rename_i e' hu'
      cases hu
      split at he
      · cases he
      · rename_i hn0
        simp only [Option.bind_eq_some_iff] at he
        obtain ⟨src, hsrc, he⟩ := he
        split at he
        · rename_i id off sz len acap ep
          simp only [Option.bind_eq_some_iff] at he
          obtain ⟨cs, hc, he⟩ := he
          split at he
          · rename_i hq
            obtain ⟨hep, rfl, hla, hfit⟩ := hq
            cases he
            obtain ⟨k, news, hl, hnl, hnr, hnf⟩ := srcCells_rel (P := P) H.r (H.val hy) hsrc
            have hdiv : src.length / sz = k := by rw [hnl, Nat.mul_div_cancel _ (by omega)]
            rw [hdiv] at hn
            have hargs' : c.args = #[x, y] := by rw [← Array.toArray_toList (xs := c.args), hargs]
            have hty' : c.argTypes = (t :: tys).toArray := by rw [← Array.toArray_toList (xs := c.argTypes), hty]
            have hrun : ∀ u w', (Builtin.copy_ (t :: tys).toArray o.type #[a.eval x, a.eval y]).run P w = .ok u w' → (execOp a.eval o).run P w = .ok (.value u) w' := by
              intro u w' hr
              simp only [execOp, ho, resolve, hcal, hargs', hty', invoke, builtin]
              simp [hr]
            have hid := (List.getElem?_eq_some_iff.1 hc).1
            have hf := hnf w (Quiet.refl w) (min k len) (Nat.min_le_left _ _)
            have hmin : Nat.min k len = min k len := rfl
            have hml : (min k len) * sz ≤ len * sz := Nat.mul_le_mul_right _ (Nat.min_le_right _ _)
            have hmk : (min k len) * sz ≤ k * sz := Nat.mul_le_mul_right _ (Nat.min_le_left _ _)
            have hlac : len * sz ≤ acap * sz := Nat.mul_le_mul_right _ hla
            have hnl2 := hnr.length
            have htk : (news.take (min k len * sz)).length = min k len * sz := by simp; omega
            have htk2 : (src.take (min k len * sz)).length = min k len * sz := by simp; omega
            have hslen : (splice cs off (src.take (min k len * sz))).length = cs.length := by simp [splice]; omega
            rcases own_cur (H.val hx) hc hep with ⟨b', zz, cap, o', hb, hxe, ho', hac, hcm, hlc, hz1⟩ | ⟨hb, hcz, hxe, rfl, rfl, rfl⟩
            · obtain ⟨us, el, lo, hi, k1, k2, k3, k4, k5⟩ := H.r.hp id cs b' zz hc hb
              by_cases hcap : 0 < cap
              · obtain rfl := ho' hcap
                obtain ⟨w', g1, g2, g3⟩ := run_storeCells0 (P := P) o' (news.take (min k len * sz)) k1 (by omega) (by rw [htk]; omega) (hnr.take _).one
                have hsp := k5.splice (hnr.take (min k len * sz)) o'
                have hle0 : (cx X p w m.hp).le (cx X p w' (m.hp.set id (splice cs o' (src.take (min k len * sz))))) := (g2.extH hb).le fun i c h1 => by
                  by_cases e : i = id
                  · subst e
                    rw [hc] at h1; cases h1
                    exact ⟨splice cs o' (src.take (min k len * sz)), by simp [hid], by omega, fun _ => .inl rfl⟩
                  · exact ⟨c, by rw [List.getElem?_set_ne (fun x => e x.symm)]; exact h1, Nat.le_refl _, fun _ => .inl rfl⟩
                have hus : us.toList.length = zz := by simpa using k2
                obtain ⟨q1, q2, q3⟩ := H.r.setH hb g2 hc hslen (HpAt.turn hle0 k2 k3 k4 rfl hsp (by rw [htk]; simp; omega) hslen g3)
                refine op_turns (v := .v (mkInt (min k len : Nat))) (m' := { m with hp := m.hp.set id (splice cs o' (src.take (min k len * sz))) }) H (hrun (.int .i64 (min k len : Nat)) w' ?_) q3 q2 q1 (.same fun _ h => h) (fun _ _ => rfl) rfl rfl hn
                simp [Builtin.copy_, run_underlying hu', hxe, hl, hmin, run_sizeOf hs, hf, g1, goInt]
              · have hl0 : len = 0 := by omega
                subst hl0
                have hsame : m.hp.set id (splice cs off (src.take (min k 0 * sz))) = m.hp := by
                  apply List.ext_getElem?
                  intro i
                  by_cases e : i = id
                  · subst e; rw [hc]; simp [hid, splice]
                  · rw [List.getElem?_set_ne (fun x => e x.symm)]
                rw [hsame] at hn
                refine op_value (v := .v (mkInt (min k 0 : Nat))) (w' := w) H (hrun (.int .i64 (min k 0 : Nat)) w ?_) (Quiet.refl w) rfl hn
                simp only [Nat.min_zero, Nat.zero_mul, List.take_zero] at hf
                simp [Builtin.copy_, run_underlying hu', hxe, hl, hmin, run_sizeOf hs, hf, storeCells, goInt]
            · have hsame : m.hp.set id (splice cs 0 (src.take (min k 0 * sz))) = m.hp := by
                apply List.ext_getElem?
                intro i
                by_cases e : i = id
                · subst e; rw [hc]; simp [hid, splice]
                · rw [List.getElem?_set_ne (fun x => e x.symm)]
              rw [hsame] at hn
              refine op_value (v := .v (mkInt (min k 0 : Nat))) (w' := w) H (hrun (.int .i64 (min k 0 : Nat)) w ?_) (Quiet.refl w) rfl hn
              simp only [Nat.min_zero, Nat.zero_mul, List.take_zero] at hf
              simp [Builtin.copy_, run_underlying hu', hxe, hl, hmin, run_sizeOf hs, hf, goInt]
          · cases he
        · cases he
    · cases hu
  · -- clear
    rename_i x t hargs hty
    have hargs' : c.args = #[x] := by rw [← Array.toArray_toList (xs := c.args), hargs]
    have hty' : c.argTypes = #[t] := by rw [← Array.toArray_toList (xs := c.argTypes), hty]
    have hrun : ∀ u w', (Builtin.clear_ #[t] o.type #[a.eval x]).run P w = .ok u w' → (execOp a.eval o).run P w = .ok (.value u) w' := by
      intro u w' hr
      simp [execOp, ho, resolve, hcal, hargs', hty', invoke, builtin, hr]
    simp only [Option.bind_eq_some_iff] at he
    obtain ⟨e, hu, n, hs, z, hz, zc, hzc, xv, hx, he⟩ := he
    unfold elemT at hu
    split at hu
    · rename_i e' hu'
      cases hu
      have hxr := H.val hx
      split at he
      · rename_i id off sz len acap ep
        simp only [Option.bind_eq_some_iff] at he
        obtain ⟨cs, hc, he⟩ := he
        split at he
        · rename_i hq
          obtain ⟨hep, rfl, hzl, hn0, hla, hfit⟩ := hq
          cases he
          obtain ⟨uz, hz1, hz2⟩ := run_zeroValue (w := w) hz (cx X p w m.hp)
          have hzr := cellsOf_rel hzc hz2
          have hzs : uz.cells.size = sz := by have := hzr.length; simp at this; omega
          have hrr := hzr.repeat_ len
          have hrl : (List.replicate len uz.cells.toList).flatten.length = len * sz := by
            have := hrr.length
            rw [this, repeat_length, hzl]
          have hze : (Builtin.zeroCells uz.cells len).toList = (List.replicate len uz.cells.toList).flatten := by
            have := zeros_eq uz.cells (by omega) len
            unfold Builtin.zeroCells
            rw [this]
          have hid := (List.getElem?_eq_some_iff.1 hc).1
          have hlac : len * sz ≤ acap * sz := Nat.mul_le_mul_right _ hla
          have hrl2 : (repeatCells zc len).length = len * sz := by rw [repeat_length, hzl]
          have hslen : (splice cs off (repeatCells zc len)).length = cs.length := by simp [splice]; omega
          have same : len = 0 → o.wp P a w next Q := by
            rintro rfl
            have hsame : m.hp.set id (splice cs off (repeatCells zc 0)) = m.hp := by
              apply List.ext_getElem?
              intro i
              by_cases e : i = id
              · subst e; rw [hc]; simp [hid, splice, repeatCells]
              · rw [List.getElem?_set_ne (fun x => e x.symm)]
            rw [hsame] at hn
            have hxs : ∃ A cap, a.eval x = .slice A 0 cap := by
              rcases own_cur hxr hc hep with ⟨b', zz, cap, o', hb, hxe, _⟩ | ⟨_, _, hxe, _⟩
              · exact ⟨_, _, hxe⟩
              · exact ⟨_, _, hxe⟩
            obtain ⟨A, cap, hxe⟩ := hxs
            refine op_value (v := .v (.tup [])) (u := .tuple #[]) (w' := w) H (hrun _ _ ?_) (Quiet.refl w) ⟨[], rfl, rfl⟩ hn
            cases A <;> simp [Builtin.clear_, run_underlying hu', hxe]
          by_cases hl0 : len = 0
          · exact same hl0
          · rcases own_cur hxr hc hep with ⟨b', zz, cap, o', hb, hxe, ho', hac, hcm, hlc, hz4⟩ | ⟨_, _, _, h0, _⟩
            · obtain ⟨us, el, lo, hi, k1, k2, k3, k4, k5⟩ := H.r.hp id cs b' zz hc hb
              obtain rfl := ho' (by omega)
              obtain ⟨w', g1, g2, g3⟩ := run_storeCells0 (P := P) o' (List.replicate len uz.cells.toList).flatten k1 (by omega) (by rw [hrl]; omega) hrr.one
              have hsp := k5.splice hrr o'
              have hle0 : (cx X p w m.hp).le (cx X p w' (m.hp.set id (splice cs o' (repeatCells zc len)))) := (g2.extH hb).le fun i c h1 => by
                by_cases e : i = id
                · subst e
                  rw [hc] at h1; cases h1
                  exact ⟨splice cs o' (repeatCells zc len), by simp [hid], by omega, fun _ => .inl rfl⟩
                · exact ⟨c, by rw [List.getElem?_set_ne (fun x => e x.symm)]; exact h1, Nat.le_refl _, fun _ => .inl rfl⟩
              have hus : us.toList.length = zz := by simpa using k2
              obtain ⟨q1, q2, q3⟩ := H.r.setH hb g2 hc hslen (HpAt.turn hle0 k2 k3 k4 rfl hsp (by rw [hrl]; simp; omega) hslen g3)
              refine op_turns (v := .v (.tup [])) (m' := { m with hp := m.hp.set id (splice cs o' (repeatCells zc len)) }) H (hrun (.tuple #[]) w' ?_) q3 q2 q1 (.same fun _ h => h) (fun _ _ => rfl) rfl ⟨[], rfl, rfl⟩ hn
              obtain ⟨len', rfl⟩ : ∃ k, len = k + 1 := ⟨len - 1, by omega⟩
              simp [Builtin.clear_, run_underlying hu', hxe, hz1, hze, g1]
            · omega
        · cases he
      · cases he
        simp only [VRel] at hxr
        exact op_value (v := .v (.tup [])) (u := .tuple #[]) (w' := w) H (hrun _ _ (by simp [Builtin.clear_, run_underlying hu', hxr])) (Quiet.refl w) ⟨[], rfl, rfl⟩ hn
      · cases he
        obtain ⟨A, cap, hxe, _⟩ := hxr
        exact op_value (v := .v (.tup [])) (u := .tuple #[]) (w' := w) H (hrun _ _ (by cases A <;> simp [Builtin.clear_, run_underlying hu', hxe])) (Quiet.refl w) ⟨[], rfl, rfl⟩ hn
      · cases he
    · cases hu
  · -- min
    rename_i x rs hargs
    obtain ⟨v, hv, rfl⟩ := ret1_eq he
    simp only [Option.bind_eq_some_iff] at hv
    obtain ⟨xv, hx, ys, hys, hv⟩ := hv
    obtain ⟨uv, k1, k2, _⟩ := mins_rel (P := P) hv (H.val hx) (H.vals hys)
    refine op_value (v := .v v) (u := uv) (w' := w) H ?_ (Quiet.refl w) k1 hn
    simp [execOp, ho, resolve, hcal, invoke, builtin, Builtin.min_, hargs, k2 rfl]
  · rename_i x rs hargs
    obtain ⟨v, hv, rfl⟩ := ret1_eq he
    simp only [Option.bind_eq_some_iff] at hv
    obtain ⟨xv, hx, ys, hys, hv⟩ := hv
    obtain ⟨uv, k1, _, k2⟩ := mins_rel (P := P) hv (H.val hx) (H.vals hys)
    refine op_value (v := .v v) (u := uv) (w' := w) H ?_ (Quiet.refl w) k1 hn
    simp [execOp, ho, resolve, hcal, invoke, builtin, Builtin.max_, hargs, k2 rfl]
  · cases he
end
end Go.Ai
