/- The abstract interpreter: each operation by itself, ninth part: append. -/
import Derived.Test.YtjijnkiojpajeaaGreatDoorAiOpsH
set_option linter.unusedVariables false
set_option linter.unusedSimpArgs false
set_option linter.unusedSectionVars false
namespace Go.Ai
variable [Glob]
section
variable {P : Program} {rec : Rec} {X : Ctl} {p : Pl} {w : World} {m : Mm} {fl : Option Flag} {ρ : Ro} {a : Act} {o : Oper} {next : Act → World → Prop} {Q : Exit → Act → World → Prop} {r : OR}

/-- What is appended or copied. -/
theorem srcCells_rel (hm : MRel X p w m) {v : AV} {u : Value} (h : VRel (cx X p w m.hp) v u) {size : Nat} {cs : List AV} (hc : srcCells m size v = some cs) :
    ∃ n news, (∀ w', (Builtin.lenOf u).run P w' = .ok n w') ∧ cs.length = n * size ∧ VRels (cx X p w m.hp) cs news ∧ (∀ w', Quiet w w' → ∀ k, k ≤ n → (Builtin.firstCells size k u).run P w' = .ok (news.take (k * size)).toArray w') := by
  unfold srcCells at hc
  split at hc
  · rename_i b
    split at hc
    · rename_i e
      subst e
      cases hc
      simp only [VRel] at h
      subst h
      refine ⟨b.size, _, fun w' => by simp [Builtin.lenOf], by rw [strCells_length]; omega, strCells_rel _ b, fun w' _ k hk => ?_⟩
      simp only [Builtin.firstCells, Sem.run_pure, Nat.mul_one]
      congr 1
      apply Array.ext'
      simp only [Array.toList_map, ByteArray.data_extract]
      simp [List.map_take]
    · cases hc
  · obtain ⟨A, len, cap, us, rfl, hl, hr, hne⟩ := aCells_rel hm h hc
    have hul := hr.length
    refine ⟨len, us, fun w' => by simp [Builtin.lenOf], hl, hr, fun w' hq k hk => ?_⟩
    have hks : k * size ≤ len * size := Nat.mul_le_mul_right _ hk
    refine run_first (w := w') rfl (by simp; omega) fun hn => ?_
    have hcn : cs ≠ [] := by
      rintro rfl
      simp only [VRels] at hr
      subst hr
      simp at hn
    obtain ⟨ad, e, hcell⟩ := hne hcn
    refine ⟨ad, e, fun j x hx => ?_⟩
    rw [List.getElem?_take] at hx
    split at hx
    · exact hq.cell (hcell j x hx)
    · cases hx

/-! ### append, as the model runs it -/
theorem run_app_room {t t' ty e : TypeId} {d : TypeDesc} {size n sLen sCap : Nat} {b off : Nat} {y : Value} {news : List Value} {us : Array Value} {el lo hi : Nat} (hu : P.underlying t = some (.slice e)) (hu2 : P.underlying t' = some d) (hd : ∀ k, d ≠ .int k) (hs : szT P e = some size)
    (hl : ∀ w', (Builtin.lenOf y).run P w' = .ok n w') (hf : (Builtin.firstCells size n y).run P w = .ok news.toArray w) (hroom : sLen + n ≤ sCap)
    (hb : w.heap[b]? = some (.cells us el (lo, hi))) (hfz : lo = hi ∨ us.size ≤ lo) (hfit : off + sLen * size + news.length ≤ us.size) (ho : ∀ v ∈ news, v.oneCell' = true) :
    ∃ w', (Builtin.append_ #[t, t'] ty #[.slice (some ⟨b, off, none⟩) sLen sCap, y]).run P w = .ok (.slice (some ⟨b, off, none⟩) (sLen + n) sCap) w' ∧ Turned w w' b ∧
      w'.heap[b]? = some (.cells (us.toList.take (off + sLen * size) ++ news ++ us.toList.drop (off + sLen * size + news.length)).toArray el (lo, hi)) := by
  obtain ⟨w', h1, h2, h3⟩ := run_storeCells0 (P := P) (off + sLen * size) news hb hfz hfit ho
  refine ⟨w', ?_, h2, h3⟩
  have hz2 : (d matches .int _) = false := by cases d <;> first | rfl | exact absurd rfl (hd _)
  simp only [Builtin.append_, List.getElem?_toArray, List.getElem?_cons_zero, List.getElem?_cons_succ, Sem.run_bind, run_underlying hu, run_underlying hu2, run_sizeOf hs, Result.andThen_ok, Sem.run_pure, hz2, Bool.false_eq_true, if_false, hl, hroom, if_true, Bool.not_false, hf, add_plain, h1]
theorem run_app_grow {t t' ty e : TypeId} {d : TypeDesc} {size bytes n sLen sCap : Nat} {A : Option Addr} {y : Value} {olds news : List Value} {z : AV} {zc : List AV} (hu : P.underlying t = some (.slice e)) (hu2 : P.underlying t' = some d) (hd : ∀ k, d ≠ .int k) (hs : szT P e = some size)
    (hby : bytesT P e = some bytes) (hb0 : bytes ≠ 0) (hz : zeroT P e = some z) (hzc : cellsOf z = some zc) (hzl : zc.length = size)
    (hl : ∀ w', (Builtin.lenOf y).run P w' = .ok n w') (hf : ∀ w', Quiet w w' → (Builtin.firstCells size n y).run P w' = .ok news.toArray w') (hroom : sCap < sLen + n) (hlim : (sLen + n) * bytes ≤ room)
    (ho : ∀ w', Quiet w w' → (Builtin.firstCells size sLen (.slice A sLen sCap)).run P w' = .ok olds.toArray w') :
    ∃ w' rest cap, (Builtin.append_ #[t, t'] ty #[.slice A sLen sCap, y]).run P w = .ok (.slice (some ⟨w.heap.size, 0, none⟩) (sLen + n) cap) w' ∧ Quiet w w' ∧ sLen + n ≤ cap ∧ cap ≤ maxLen ∧ rest.length = (cap - (sLen + n)) * size ∧
      w'.heap[w.heap.size]? = some (.cells (olds ++ news ++ rest).toArray e (0, 0)) := by
  simp only [bytesT, Option.map_eq_some_iff] at hby
  obtain ⟨i, hi, rfl⟩ := hby
  have hz2 : (d matches .int _) = false := by cases d <;> first | rfl | exact absurd rfl (hd _)
  have hn : ¬ (sLen + n ≤ sCap) := by omega
  have hbp : 1 ≤ i.bytes := by omega
  have hnr : sLen + n ≤ room := Nat.le_trans (Nat.le_mul_of_pos_right _ (by omega)) hlim
  have h63 : ¬ (((sLen + n : Nat) : Int) > IntKind.i64.max ∧ (False ∨ i.bytes = 0)) := by rintro ⟨_, h | h⟩; exact h; omega
  have h48 : ¬ (Builtin.nextslicecap (sLen + n) sCap * i.bytes > 2 ^ 48) := by have := growslice_fits (by omega) (show (sLen + n) * i.bytes ≤ 140737488355328 from hlim); omega
  have hmax : sLen + n ≤ maxLen := by unfold room at hnr; unfold maxLen; omega
  have hq : Quiet w { w with drawn := w.drawn + 1 } := Quiet.drew w
  obtain ⟨uz, hz1, hz3⟩ := run_zeroValue (P := P) (w := { w with drawn := w.drawn + 1 }) hz ⟨w, fun _ _ => True, fun _ => none, fun _ => none⟩
  have hzr := cellsOf_rel hzc hz3
  have hzs : uz.cells.size = size := by have := hzr.length; simp at this; omega
  refine ⟨({ w with drawn := w.drawn + 1 } : World).alloc (.cells (olds ++ news ++ (Builtin.zeroCells uz.cells (grownCap w (sLen + n) sCap e - (sLen + n))).toList).toArray e), (Builtin.zeroCells uz.cells (grownCap w (sLen + n) sCap e - (sLen + n))).toList, grownCap w (sLen + n) sCap e, ?_, hq.trans (Quiet.alloc _ _), grownCap_ge .., grownCap_le_maxLen w _ _ e hmax, by simp [size_zeroCells, hzs], heap_alloc_new _ _⟩
  have hch : (choose (.appendCap (sLen + n) sCap e)).run P w = .ok (grownCap w (sLen + n) sCap e) { w with drawn := w.drawn + 1 } := by simp [Question.forced, grownCap]
  simp only [Builtin.append_, List.getElem?_toArray, List.getElem?_cons_zero, List.getElem?_cons_succ, Sem.run_bind, run_underlying hu, run_underlying hu2, run_sizeOf hs, Result.andThen_ok, Sem.run_pure, hz2, Bool.false_eq_true, if_false, hl, hn, typeInfo, run_program, hi, Sem.run_ite, if_neg h63, if_neg h48, hch, run_askRoom, ho _ hq, Bool.not_false, if_true, hf _ hq, hz1, newRow, run_newObj]
  simp only [Result.ok.injEq, true_and, World.alloc, World.mk.injEq, and_true]
  congr 2
  apply Array.ext'
  simp [List.append_assoc]

/-- An object grows where it lies. -/
theorem MRel.growH (hr : MRel X p w m) {id b z : Nat} (hb : p.rh id = some (b, z)) {w' : World} (h : Turned w w' b) {cs cs' : List AV} (hc : m.hp[id]? = some cs) (hlen : cs.length < cs'.length)
    (hat : ∀ c, (cx X p w m.hp).le c → HpAt c w' b z cs') :
    MRel X p w' { m with hp := m.hp.set id cs' } ∧ (cx X p w m.hp).le (cx X p w' (m.hp.set id cs')) ∧ Ext p w p w' := by
  have hext := h.extH hb
  have hle : (cx X p w m.hp).le (cx X p w' (m.hp.set id cs')) := hext.le fun i c h1 => by
    by_cases e : i = id
    · subst e
      rw [hc] at h1; cases h1
      exact ⟨cs', by simp [(List.getElem?_eq_some_iff.1 hc).1], by omega, fun _ => .inl rfl⟩
    · exact ⟨c, by rw [List.getElem?_set_ne (fun x => e x.symm)]; exact h1, Nat.le_refl _, fun _ => .inl rfl⟩
  refine ⟨⟨fun i c b1 z1 h1 h2 => ?_, fun i b1 z1 h1 => by simpa using hr.hlt i b1 z1 h1, fun k b1 h1 => ?_, hr.injh, hr.injl, hr.dis, fun i b1 z1 h1 => by rw [h.size]; exact hr.hsz i b1 z1 h1, fun k b1 h1 => by rw [h.size]; exact hr.lsz k b1 h1, hr.muts, hr.gl.mono hle⟩, hle, hext⟩
  · by_cases e : i = id
    · subst e
      rw [hb] at h2
      simp only [Option.some.injEq, Prod.mk.injEq] at h2
      obtain ⟨rfl, rfl⟩ := h2
      simp [(List.getElem?_eq_some_iff.1 hc).1] at h1
      subst h1
      exact hat _ hle
    · rw [List.getElem?_set_ne (fun x => e x.symm)] at h1
      exact (hr.hp i c b1 z1 h1 h2).mono hle (h.blk b1 fun x => by subst x; exact e (hr.injh i id _ _ _ h2 hb))
  · exact (hr.loc k b1 h1).mono hle (h.blk b1 fun x => by subst x; exact hr.dis id k _ z hb h1)
/-- An object moves to a new block. -/
theorem MRel.moveH (hr : MRel X p w m) (lt : ∀ blk, X.Mut blk → blk < w.heap.size) {w' : World} {id b z : Nat} (h : Quiet w w') (hb : w.heap.size ≤ b) (hb' : b < w'.heap.size) {cs cs' : List AV} (hc : m.hp[id]? = some cs) (hlen : cs.length < cs'.length)
    (hat : ∀ c, (cx X p w m.hp).le c → HpAt c w' b z cs') :
    MRel X (p.putH id b z) w' { m with hp := m.hp.set id cs' } ∧ (cx X p w m.hp).le (cx X (p.putH id b z) w' (m.hp.set id cs')) := by
  have hi := (List.getElem?_eq_some_iff.1 hc).1
  have hl : ∀ i c, m.hp[i]? = some c → ∃ c', (m.hp.set id cs')[i]? = some c' ∧ c.length ≤ c'.length ∧ (c'.length = c.length → (p.putH id b z).rh i = p.rh i ∨ (p.rh i = none ∧ c.length ≠ 0)) := fun i c h1 => by
    by_cases e : i = id
    · subst e
      rw [hc] at h1; cases h1
      exact ⟨cs', by simp [hi], by omega, fun h => by omega⟩
    · exact ⟨c, by rw [List.getElem?_set_ne (fun x => e x.symm)]; exact h1, Nat.le_refl _, fun _ => .inl (by simp only [Pl.putH]; rw [if_neg e])⟩
  refine hr.newH h hb hb' lt (by simpa using hi) hl (fun i c b1 z1 hne h1 h2 => by rw [List.getElem?_set_ne (fun x => hne x.symm)] at h1; exact h1) (by simp) fun c h1 => ?_
  simp [hi] at h1
  subst h1
  exact hat _ ((ext_newH h z hb).le hl)

theorem kept_move {w' : World} {id b z : Nat} {cs cs' : List AV} (hc : m.hp[id]? = some cs) (hlen : cs.length < cs'.length) : Kept (cx X p w m.hp) (cx X (p.putH id b z) w' (m.hp.set id cs')) := fun i n h1 _ h3 h4 => by
  by_cases e : i = id
  · subst e
    simp only [cx, hc, Option.map_some, Option.some.injEq] at h1
    simp only [cx, List.getElem?_set_self (List.getElem?_eq_some_iff.1 hc).1, Option.map_some, Option.some.injEq] at h4
    omega
  · simp only [cx, Pl.putH]
    rw [if_neg e]
    exact h3
theorem op_append (H : Hyp X p w m ρ a) {c : Call} {x y : Operand} {t t' : TypeId} (ho : o.op = .call c) (hcal : c.callee = .builtin .append) (hargs : c.args.toList = [x, y]) (hty : c.argTypes.toList = [t, t']) {d : TypeDesc} {e : TypeId} {size bytes : Nat} {xv yv : AV}
    (hu2 : P.underlying t' = some d) (hd : ∀ k, d ≠ .int k) (hu : P.underlying t = some (.slice e)) (hs : szT P e = some size) (hby : bytesT P e = some bytes) {z : AV} {zc : List AV} (hz : zeroT P e = some z) (hzc : cellsOf z = some zc) (hzl : zc.length = size)
    (hx : opv ρ x = some xv) (hy : opv ρ y = some yv) {v : AV} {m' : Mm} (h : aAppend m size bytes xv yv = some (v, m')) (hn : Goes X p w m fl a o next (.v v) m') : o.wp P a w next Q := by
  have hxr := H.val hx
  have hyr := H.val hy
  have hargs' : c.args = #[x, y] := by rw [← Array.toArray_toList (xs := c.args), hargs]
  have hty' : c.argTypes = #[t, t'] := by rw [← Array.toArray_toList (xs := c.argTypes), hty]
  have hrun : ∀ u w', (Builtin.append_ #[t, t'] o.type #[a.eval x, a.eval y]).run P w = .ok u w' → (execOp a.eval o).run P w = .ok (.value u) w' := by
    intro u w' hr
    simp [execOp, ho, resolve, hcal, hargs', hty', invoke, builtin, hr]
  unfold aAppend at h
  split at h
  · cases h
  rename_i h0
  have hs0 : 0 < size := by omega
  have hb0 : bytes ≠ 0 := by omega
  simp only [Option.bind_eq_some_iff] at h
  obtain ⟨new, hnew, h⟩ := h
  obtain ⟨n, news, hl, hnl, hnr, hnf⟩ := srcCells_rel H.r hyr hnew
  have hnul := hnr.length
  have hnf' : ∀ w', Quiet w w' → (Builtin.firstCells size n (a.eval y)).run P w' = .ok news.toArray w' := fun w' hq => by
    have := hnf w' hq n (Nat.le_refl _)
    rwa [List.take_of_length_le (by omega)] at this
  have hdiv : new.length / size = n := by rw [hnl, Nat.mul_div_cancel _ hs0]
  split at h
  · -- nil
    simp only [VRel] at hxr
    split at h
    · rename_i hz0
      cases h
      have hn0 : n = 0 := by
        rcases Nat.eq_zero_or_pos n with h | h
        · exact h
        · have : 0 < n * size := Nat.mul_pos h hs0
          omega
      subst hn0
      have hne : news = [] := List.eq_nil_of_length_eq_zero (by omega)
      subst hne
      have hz2 : (d matches .int _) = false := by cases d <;> first | rfl | exact absurd rfl (hd _)
      refine op_value (v := .v .nils) (u := .slice none 0 0) (w' := w) H (hrun _ _ ?_) (Quiet.refl w) rfl hn
      rw [hxr]
      simp only [Builtin.append_, List.getElem?_toArray, List.getElem?_cons_zero, List.getElem?_cons_succ, Sem.run_bind, run_underlying hu, run_underlying hu2, run_sizeOf hs, Result.andThen_ok, Sem.run_pure, hz2, Bool.false_eq_true, if_false, hl, Nat.add_zero, Nat.le_refl, if_true, Bool.not_false, hnf' w (Quiet.refl w)]
    · rename_i hz0
      split at h
      · rename_i hlim
        cases h
        rw [hdiv] at hlim hn
        have hnp : 0 < n := by
          rcases Nat.eq_zero_or_pos n with h | h
          · subst h; omega
          · exact h
        obtain ⟨w', rest, cap, g1, g2, g3, g4, g5, g6⟩ := run_app_grow (P := P) (w := w) (ty := o.type) (A := none) (sLen := 0) (sCap := 0) (olds := []) (y := a.eval y) hu hu2 hd hs hby hb0 hz hzc hzl hl hnf' (by omega) (by simpa using hlim) (fun w' _ => by simp [Builtin.firstCells])
        simp only [Nat.zero_add, List.nil_append] at g1 g3 g5 g6
        refine newOwn_goes (lo := 0) (hi := 0) (n := size) (len := n) (acap := n) (cap := cap) (z := cap * size) H rfl (hrun _ _ (by rw [hxr]; exact g1)) g2 g6 ?_ (.inl rfl) ?_ g3 g4 g3 (Nat.le_refl _) hn
        · rw [List.length_append, g5, hnul, hnl, ← Nat.add_mul]
          congr 1
          omega
        · rw [← hnul, List.take_left]
          exact hnr
      · cases h
  · -- a list of one's own
    rename_i id off sz len acap ep
    simp only [Option.bind_eq_some_iff] at h
    obtain ⟨cs, hc, h⟩ := h
    split at h
    rotate_left
    · cases h
    rename_i hq
    rw [hdiv] at hq h
    obtain ⟨hep, rfl, hla, hfit, hlim⟩ := hq
    have hid := (List.getElem?_eq_some_iff.1 hc).1
    have hlsz : len * sz ≤ acap * sz := Nat.mul_le_mul_right _ hla
    split at h
    · -- there is room
      rename_i hroom
      cases h
      have hfit2 : off + len * sz + new.length ≤ cs.length := by
        have : (len + n) * sz ≤ acap * sz := Nat.mul_le_mul_right _ hroom
        rw [Nat.add_mul] at this
        omega
      have hslen : (splice cs (off + len * sz) new).length = cs.length := by simp [splice]; omega
      rcases own_cur hxr hc hep with ⟨b, zz, cap, o', hb, hxe, ho', hac, hcm, hlc, hz1⟩ | ⟨hb, hcz, hxe, rfl, rfl, rfl⟩
      · obtain ⟨us, el, lo, hi, k1, k2, k3, k4, k5⟩ := H.r.hp id cs b zz hc hb
        -- where its cells lie: if there are none, anywhere
        by_cases hcap : 0 < cap
        · obtain rfl := ho' hcap
          obtain ⟨w', g1, g2, g3⟩ := run_app_room (P := P) (w := w) (ty := o.type) (b := b) (off := o') (sLen := len) (sCap := cap) (y := a.eval y) hu hu2 hd hs hl (hnf' w (Quiet.refl w)) (by omega) k1 (by omega) (by omega) hnr.one
          have hus : us.toList.length = zz := by simpa using k2
          have hsp := k5.splice hnr (o' + len * sz)
          have hle0 : (cx X p w m.hp).le (cx X p w' (m.hp.set id (splice cs (o' + len * sz) new))) := (g2.extH hb).le fun i c h1 => by
            by_cases e : i = id
            · subst e
              rw [hc] at h1; cases h1
              exact ⟨splice cs (o' + len * sz) new, by simp [hid], by omega, fun _ => .inl rfl⟩
            · exact ⟨c, by rw [List.getElem?_set_ne (fun x => e x.symm)]; exact h1, Nat.le_refl _, fun _ => .inl rfl⟩
          obtain ⟨q1, q2, q3⟩ := H.r.setH hb g2 hc hslen (HpAt.turn hle0 k2 k3 k4 rfl hsp (by simp; omega) hslen g3)
          refine op_turns (v := .v (.own id o' sz (len + n) acap ep)) (m' := { m with hp := m.hp.set id (splice cs (o' + len * sz) new) }) H (hrun _ _ (by rw [hxe]; exact g1)) q3 q2 q1 (.same fun _ h => h) (fun _ _ => rfl) rfl ?_ hn
          exact ⟨rfl, ep, by simp [cx, hid, hslen, hep], Nat.le_refl _, fun _ => .inl ⟨b, zz, cap, o', hb, rfl, fun _ => rfl, hac, hcm, by omega, hz1⟩⟩
        · have hl0 : len = 0 := by omega
          have hn0 : n = 0 := by omega
          have ha0 : acap = 0 := by omega
          have hcp : cap = 0 := by omega
          subst hl0 hn0 ha0 hcp
          have hnn : news = [] := List.eq_nil_of_length_eq_zero (by omega)
          have hnn2 : new = [] := List.eq_nil_of_length_eq_zero (by omega)
          subst hnn hnn2
          have hz2 : (d matches .int _) = false := by cases d <;> first | rfl | exact absurd rfl (hd _)
          have hsame : m.hp.set id (splice cs (off + 0 * sz) []) = m.hp := by
            apply List.ext_getElem?
            intro i
            by_cases e : i = id
            · subst e; rw [hc]; simp [hid, splice]
            · rw [List.getElem?_set_ne (fun x => e x.symm)]
          rw [hsame] at hn
          refine op_value (v := .v (.own id off sz (0 + 0) 0 ep)) (u := .slice (some ⟨b, o', none⟩) 0 0) (w' := w) H (hrun _ _ ?_) (Quiet.refl w) (by show VRel _ _ _; simpa [hxe] using hxr) hn
          rw [hxe]
          simp [Builtin.append_, run_underlying hu, run_underlying hu2, run_sizeOf hs, hz2, hl, hnf' w (Quiet.refl w), storeCells]
      · have hn0 : n = 0 := by omega
        subst hn0
        have hnn : news = [] := List.eq_nil_of_length_eq_zero (by omega)
        have hnn2 : new = [] := List.eq_nil_of_length_eq_zero (by omega)
        subst hnn hnn2
        have hz2 : (d matches .int _) = false := by cases d <;> first | rfl | exact absurd rfl (hd _)
        have hsame : m.hp.set id (splice cs (0 + 0 * sz) []) = m.hp := by
          apply List.ext_getElem?
          intro i
          by_cases e : i = id
          · subst e; rw [hc]; simp [hid, splice]
          · rw [List.getElem?_set_ne (fun x => e x.symm)]
        rw [hsame] at hn
        refine op_value (v := .v (.own id 0 sz (0 + 0) 0 ep)) (u := .slice none 0 0) (w' := w) H (hrun _ _ ?_) (Quiet.refl w) (by show VRel _ _ _; simpa [hxe] using hxr) hn
        rw [hxe]
        simp only [Builtin.append_, List.getElem?_toArray, List.getElem?_cons_zero, List.getElem?_cons_succ, Sem.run_bind, run_underlying hu, run_underlying hu2, run_sizeOf hs, Result.andThen_ok, Sem.run_pure, hz2, Bool.false_eq_true, if_false, hl, Nat.add_zero, Nat.le_refl, if_true, Bool.not_false, hnf' w (Quiet.refl w)]
    · split at h
      · -- it grows
        rename_i hroom hg
        obtain ⟨rfl, hae⟩ := hg
        cases h
        have hnp : 0 < n := by omega
        have hcsl : (cs.take (len * sz) ++ new).length = len * sz + new.length := by simp; omega
        have hgr : cs.length < (cs.take (len * sz) ++ new).length := by
          have : (acap + 1) * sz ≤ (len + n) * sz := Nat.mul_le_mul_right _ (by omega)
          rw [Nat.add_mul, Nat.add_mul] at this
          omega
        have htl : (cs.take (len * sz) ++ new).length = (len + n) * sz := by rw [hcsl, Nat.add_mul]; omega
        -- the cells that it had
        obtain ⟨A, len', cap', olds, hxe0, hol, hor, hof⟩ := aCells_rel H.r hxr (size := sz) (cs := (cs.drop 0).take (len * sz)) (by simp [aCells, hc, hep, hla]; omega)
        simp only [List.drop_zero] at hol hor hof
        have grow : ∀ (cap : Nat), a.eval x = .slice A len cap → cap < len + n → o.wp P a w next Q := by
          intro cap hxe hlt
          have hll : len' = len := by rw [hxe0] at hxe; cases hxe; rfl
          subst hll
          have hofr : ∀ w', Quiet w w' → (Builtin.firstCells sz len' (.slice A len' cap)).run P w' = .ok olds.toArray w' := fun w' hq => by
            refine run_first (w := w') rfl (by rw [hor.length]; exact hol) fun hn2 => ?_
            obtain ⟨ad, e1, hcell⟩ := hof (by rintro h1; rw [h1] at hor; simp only [VRels] at hor; exact hn2 hor)
            exact ⟨ad, e1, fun j x hx => hq.cell (hcell j x hx)⟩
          obtain ⟨w', rest, ncap, g1, g2, g3, g4, g5, g6⟩ := run_app_grow (P := P) (w := w) (ty := o.type) (A := A) (sLen := len') (sCap := cap) (olds := olds) (y := a.eval y) hu hu2 hd hs hby hb0 hz hzc hzl hl hnf' hlt hlim hofr
          have hlt' : w.heap.size < w'.heap.size := by
            rcases Nat.lt_or_ge w.heap.size w'.heap.size with h | h
            · exact h
            · rw [Array.getElem?_eq_none h] at g6; cases g6
          have hoo := hor.length
          have hsz : (olds ++ news ++ rest).toArray.size = ncap * sz := by
            simp only [List.size_toArray, List.length_append, g5]
            have e1 : olds.length = len' * sz := by rw [hoo]; exact hol
            rw [e1, hnul, hnl, ← Nat.add_mul, ← Nat.add_mul]
            congr 1
            omega
          obtain ⟨q1, q2⟩ := H.r.moveH H.lt (z := ncap * sz) g2 (Nat.le_refl _) hlt' hc hgr fun c hle => ⟨_, e, 0, 0, g6, hsz, .inl rfl, by rw [htl]; exact Nat.mul_le_mul_right _ g3, by
            have := (hor.append hnr).mono hle _ _
            rw [show (olds ++ news ++ rest).toArray.toList = olds ++ news ++ rest from rfl]
            have hal := (hor.append hnr).length
            rw [← hal, List.take_left]
            exact this⟩
          refine op_turns (v := .v (.own id 0 sz (len' + n) (len' + n) (len' * sz + new.length))) (m' := { m with hp := m.hp.set id (cs.take (len' * sz) ++ new) }) H (hrun _ _ (by rw [hxe]; exact g1)) (ext_newH g2 _ (Nat.le_refl _)) q2 q1 (kept_move hc hgr) (fun _ _ => rfl) rfl ?_ hn
          exact ⟨rfl, len' * sz + new.length, by simp [cx, hid]; omega, Nat.le_refl _, fun _ => .inl ⟨w.heap.size, ncap * sz, ncap, 0, by simp [cx, Pl.putH], rfl, fun _ => rfl, g3, g4, g3, by omega⟩⟩
        rcases own_cur hxr hc hep with ⟨b, zz, cap, o', hb, hxe, ho', hac, hcm, hlc, hz1⟩ | ⟨hb, hcz, hxe, rfl, rfl, _⟩
        · by_cases hcr : len + n ≤ cap
          · -- where it lies
            obtain rfl := ho' (by omega)
            obtain ⟨us, el, lo, hi, k1, k2, k3, k4, k5⟩ := H.r.hp id cs b zz hc hb
            have hcapz : (len + n) * sz ≤ cap * sz := Nat.mul_le_mul_right _ hcr
            rw [Nat.add_mul] at hcapz
            obtain ⟨w', g1, g2, g3⟩ := run_app_room (P := P) (w := w) (ty := o.type) (b := b) (off := 0) (sLen := len) (sCap := cap) (y := a.eval y) hu hu2 hd hs hl (hnf' w (Quiet.refl w)) hcr k1 (by omega) (by omega) hnr.one
            simp only [Nat.zero_add] at g3
            have hus : us.toList.length = zz := by simpa using k2
            obtain ⟨q1, q2, q3⟩ := H.r.growH hb g2 hc hgr fun c hle => ⟨_, el, lo, hi, g3, by simp; omega, k3, by rw [hcsl]; omega, by
              rw [show (us.toList.take (len * sz) ++ news ++ us.toList.drop (len * sz + news.length)).toArray.toList = us.toList.take (len * sz) ++ news ++ us.toList.drop (len * sz + news.length) from rfl]
              have e1 : (us.toList.take (len * sz) ++ news).length = (cs.take (len * sz) ++ new).length := by simp; omega
              rw [← e1, List.take_left]
              have e2 : us.toList.take (len * sz) = (us.toList.take cs.length).take (len * sz) := by rw [List.take_take]; congr 1; omega
              rw [e2]
              exact ((k5.take _).append hnr).mono hle _ _⟩
            refine op_turns (v := .v (.own id 0 sz (len + n) (len + n) (len * sz + new.length))) (m' := { m with hp := m.hp.set id (cs.take (len * sz) ++ new) }) H (hrun _ _ (by rw [hxe]; exact g1)) q3 q2 q1 (.same fun _ h => h) (fun _ _ => rfl) rfl ?_ hn
            exact ⟨rfl, len * sz + new.length, by simp [cx, hid]; omega, Nat.le_refl _, fun _ => .inl ⟨b, zz, cap, 0, hb, rfl, fun _ => rfl, hcr, hcm, hcr, by omega⟩⟩
          · have hA : A = some ⟨b, o', none⟩ := by rw [hxe0] at hxe; cases hxe; rfl
            exact grow cap (by rw [hxe, hA]) (by omega)
        · have hA : A = none := by rw [hxe0] at hxe; cases hxe; rfl
          exact grow 0 (by rw [hxe, hA]) (by omega)
      · cases h
  · cases h
end
end Go.Ai
