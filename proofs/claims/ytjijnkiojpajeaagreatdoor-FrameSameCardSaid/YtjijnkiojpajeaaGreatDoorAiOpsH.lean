/- The abstract interpreter: each operation by itself, eighth part: make, conversions. -/
import Derived.Test.YtjijnkiojpajeaaGreatDoorAiOpsG
import Derived.Laws.BytesArg
set_option linter.unusedVariables false
set_option linter.unusedSimpArgs false
set_option linter.unusedSectionVars false
namespace Go.Ai
variable [Glob]
section
variable {P : Program} {rec : Rec} {X : Ctl} {p : Pl} {w : World} {m : Mm} {fl : Option Flag} {ρ : Ro} {a : Act} {o : Oper} {next : Act → World → Prop} {Q : Exit → Act → World → Prop} {r : OR}

theorem wrap_small {n : Int} (h0 : 0 ≤ n) (h : n ≤ (room : Nat)) : IntKind.i64.wrap n = n := by
  unfold room at h
  simp [IntKind.wrap, IntKind.bits, IntKind.signed]
  omega
theorem repeat_length (z : List AV) : ∀ n, (repeatCells z n).length = n * z.length
  | 0 => by simp [repeatCells]
  | n + 1 => by simp [repeatCells, repeat_length z n, Nat.add_mul]; omega
/-- A new object that is a slice's. -/
theorem newOwn_goes (H : Hyp X p w m ρ a) {el : TypeId} {us : List Value} {cs : List AV} {w' : World} {lo hi n len cap z : Nat} {u : Value} (hu : u = .slice (some ⟨w.heap.size, 0, none⟩) len cap)
    (hrun : (execOp a.eval o).run P w = .ok (.value u) w') (hq : Quiet w w') (hb : w'.heap[w.heap.size]? = some (.cells us.toArray el (lo, hi))) (hz : us.length = z) (hf : lo = hi ∨ z ≤ lo)
    (hr : VRels (cx X p w m.hp) cs (us.take cs.length)) {acap : Nat} (hac : acap ≤ cap) (hmax : cap ≤ maxLen) (hlc : len ≤ cap) (hcz : cap * n ≤ z)
    (hn : Goes X p w m fl a o next (.v (.own m.hp.length 0 n len acap cs.length)) { m with hp := m.hp ++ [cs] }) : o.wp P a w next Q := by
  have hlt : w.heap.size < w'.heap.size := by
    rcases Nat.lt_or_ge w.heap.size w'.heap.size with h | h
    · exact h
    · rw [Array.getElem?_eq_none h] at hb; cases hb
  have hcl : cs.length ≤ z := by have := hr.length; simp at this; omega
  obtain ⟨h1, h2⟩ := H.r.push H.lt hq (b := w.heap.size) (z := z) (Nat.le_refl _) hlt (cs := cs) fun c hc => ⟨us.toArray, el, lo, hi, hb, by simpa using hz, hf, hcl, hr.mono hc _ _⟩
  refine op_turns (v := .v (.own m.hp.length 0 n len acap cs.length)) (m' := { m with hp := m.hp ++ [cs] }) H hrun (ext_newH hq _ (Nat.le_refl _)) h2 h1 (kept_new rfl rfl) (fun _ _ => rfl) rfl ?_ hn
  subst hu
  exact ⟨rfl, cs.length, by simp [cx], Nat.le_refl _, fun _ => .inl ⟨w.heap.size, z, cap, 0, by simp [cx, Pl.putH], rfl, fun _ => rfl, hac, hmax, hlc, by omega⟩⟩
theorem op_makeSlice (H : Hyp X p w m ρ a) {t : TypeId} {x y : Operand} (ho : o.op = .makeSlice t x y) (he : evalOp P rec fl ρ m o = some r) (hn : Out X p w m fl a o next Q r) : o.wp P a w next Q := by
  simp only [evalOp, ho, aMakeSlice, elemT, bytesT, Option.bind_eq_some_iff, Option.map_eq_some_iff] at he
  obtain ⟨xv, hx, yv, hy, e, hu, n, hs, by_, ⟨i, hi, rfl⟩, z, hz, zc, hzc, l, hl, c, hc, he⟩ := he
  split at hu
  · rename_i e' hu'
    cases hu
    split at he
    · rename_i hcond
      obtain ⟨h0, hzl, hl0, hlc, hcr, hby⟩ := hcond
      split at he
      · cases he
        have hxr := H.val hx
        have hyr := H.val hy
        rw [intv_eq hl] at hxr
        rw [intv_eq hc] at hyr
        simp only [VRel] at hxr hyr
        obtain ⟨uz, hz1, hz2⟩ := run_zeroValue (w := w) hz (cx X p w m.hp)
        have hzr := cellsOf_rel hzc hz2
        have hzs : uz.cells.size = n := by have := hzr.length; simp at this; omega
        have hw1 : IntKind.i64.wrap l.2 = l.2 := wrap_small hl0 (by omega)
        have hw2 : IntKind.i64.wrap c.2 = c.2 := wrap_small (by omega) hcr
        have hze := zeros_eq uz.cells (by omega) c.2.toNat
        rw [hzs] at hze
        have hrr := hzr.repeat_ c.2.toNat
        have hrl : (List.replicate c.2.toNat uz.cells.toList).flatten.length = c.2.toNat * n := by
          have := hrr.length
          rw [this, repeat_length, hzl]
        have hlen : (repeatCells zc c.2.toNat).length = c.2.toNat * n := by rw [repeat_length, hzl]
        have hrun : (execOp a.eval o).run P w = .ok (.value (.slice (some ⟨w.heap.size, 0, none⟩) l.2.toNat c.2.toNat)) (w.alloc (.cells ((List.replicate c.2.toNat uz.cells.toList).flatten).toArray e)) := by
          have g1 : ¬ ((i.bytes : Int) * c.2 > 2 ^ 48) := by unfold room at hby; omega
          have g2 : ¬ (c.2 < 0) := by omega
          have g3 : ¬ (l.2 < 0) := by omega
          have g4 : ¬ (l.2 > c.2) := by omega
          by_cases hc0 : c.2.toNat = 0
          · rw [hc0] at hze
            have hz0 : ∀ f : Nat → Value, Array.map f (Array.range 0) = #[] := fun f => by simp
            have he0 : c.2.toNat * n = 0 := by rw [hc0]; simp
            simp only [execOp, ho, Instr.makeSlice, Sem.run_bind, run_underlying hu', Result.andThen_ok, hxr, hyr, asInt, asIntOf, typeInfo, run_program, hi, Sem.run_pure, hw1, hw2, g1, g2, g3, g4, decide_false, Bool.or_false, Bool.false_eq_true, if_false, run_sizeOf hs, run_askRoom, he0, if_true, Sem.run_ite, hz0, newRow]
            simp [hc0]
          · have hne : ¬ (c.2.toNat * n = 0) := by simp only [Nat.mul_eq_zero, not_or]; omega
            simp only [execOp, ho, Instr.makeSlice, Sem.run_bind, run_underlying hu', Result.andThen_ok, hxr, hyr, asInt, asIntOf, typeInfo, run_program, hi, Sem.run_pure, hw1, hw2, g1, g2, g3, g4, decide_false, Bool.or_false, Bool.false_eq_true, if_false, run_sizeOf hs, run_askRoom, if_neg hne, Sem.run_ite, hz1, hzs, hze, newRow]
            simp
        refine newOwn_goes (lo := 0) (hi := 0) (cap := c.2.toNat) (z := c.2.toNat * n) H rfl hrun (Quiet.alloc w _) (heap_alloc_new w _) hrl (.inl rfl) ?_ (Nat.le_refl _) ?_ (by omega) (Nat.le_refl _) (by rw [hlen]; exact hn)
        · rw [List.take_of_length_le (by omega)]
          exact hrr
        · unfold room at hcr; unfold maxLen; omega
      · cases he
    · cases he
  · cases hu

/-! ### conversions -/
theorem strCells_rel (c : Cx) (s : ByteArray) : VRels c (strCells s) (s.data.map fun b => Value.int .u8 b.toNat).toList := by
  unfold strCells
  rw [Array.toList_map]
  generalize s.data.toList = l
  induction l with
  | nil => rfl
  | cons b l ih => exact ⟨_, _, rfl, rfl, rfl, ih⟩
theorem strCells_length (s : ByteArray) : (strCells s).length = s.size := by simp [strCells]
theorem freeze_heap (w : World) (b off : Nat) (k : Nat) : (w.freeze ⟨b, off, none⟩ 1).heap[k]? = if k = b then (w.heap[k]?).map (fun | .cells c el (lo, hi) => .cells c el (if lo == hi then (off, off + 1) else (min lo off, max hi (off + 1))) | o => o) else w.heap[k]? := by
  simp only [World.freeze, Nat.one_ne_zero, if_false, Array.getElem?_modify]
  by_cases h : b = k
  · subst h; simp; rfl
  · rw [if_neg h, if_neg (fun e => h e.symm)]
/-- '[]byte(s)', as the model runs it. -/
theorem run_toBytes (w : World) (e : TypeId) (s : ByteArray) (hs : s.size ≤ room) : ∃ cap w', (Conv.stringToBytes e s).run P w = .ok (.slice (some ⟨w.heap.size, 0, none⟩) s.size cap) w' ∧ Quiet w w' ∧ s.size ≤ cap ∧ cap ≤ maxLen ∧
    ∃ rest lo hi, rest.length + s.size = cap ∧ cap ≤ lo ∧ w'.heap[w.heap.size]? = some (.cells ((s.data.map fun b => Value.int .u8 b.toNat).toList ++ rest).toArray e (lo, hi)) := by
  have hge := grownCap_ge w s.size 0 e
  have hsz : (s.data.map fun b => Value.int .u8 b.toNat).size = s.size := by simp
  have hal : ((s.data.map fun b => Value.int .u8 b.toNat) ++ Array.replicate (grownCap w s.size 0 e - s.size) (Value.int .u8 0)).size = grownCap w s.size 0 e := by rw [Array.size_append, hsz]; simp; omega
  have hae : ((s.data.map fun b => Value.int .u8 b.toNat) ++ Array.replicate (grownCap w s.size 0 e - s.size) (Value.int .u8 0)) = ((s.data.map fun b => Value.int .u8 b.toNat).toList ++ List.replicate (grownCap w s.size 0 e - s.size) (Value.int .u8 0)).toArray := by
    apply Array.ext'
    simp
  generalize harr : ((s.data.map fun b => Value.int .u8 b.toNat) ++ Array.replicate (grownCap w s.size 0 e - s.size) (Value.int .u8 0)) = arr at hal hae
  refine ⟨grownCap w s.size 0 e, ({ w with heap := w.heap.push (.cells arr e), drawn := w.drawn + 1 } : World).freeze ⟨w.heap.size, grownCap w s.size 0 e, none⟩ 1, ?_, ?_, hge, grownCap_le_maxLen w s.size 0 e (by unfold room at hs; unfold maxLen; omega), List.replicate (grownCap w s.size 0 e - s.size) (.int .u8 0), grownCap w s.size 0 e, grownCap w s.size 0 e + 1, ?_, Nat.le_refl _, ?_⟩
  · simp only [Conv.stringToBytes, Sem.run_bind, run_choose, Question.forced, Bool.false_eq_true, if_false, Result.andThen_ok]
    rw [show (Question.appendCap s.size 0 e).cut (w.tape w.drawn (.appendCap s.size 0 e)) = grownCap w s.size 0 e from rfl, harr]
    simp only [newRow, Sem.run_bind, run_newObj, Result.andThen_ok, Sem.run_pure, markStringish, run_shape]
    have hsh : ({ w with heap := w.heap.push (.cells arr e), drawn := w.drawn + 1 } : World).shape? w.heap.size = some (e, arr.size) := by simp [World.shape?]
    rw [hsh]
    simp [hal]
  · refine ⟨rfl, rfl, rfl, ?_, fun k hk => ?_⟩
    · simp [World.freeze]
    · rw [freeze_heap, if_neg (by omega)]
      simp [Array.getElem?_push]
      omega
  · simp; omega
  · rw [freeze_heap, if_pos rfl]
    simp [hae]
/-- The cells of a slice's elements, where they lie. -/
theorem aCells_rel (hm : MRel X p w m) {v : AV} {u : Value} (h : VRel (cx X p w m.hp) v u) {size : Nat} {cs : List AV} (hc : aCells m size v = some cs) :
    ∃ A len cap us, u = .slice A len cap ∧ cs.length = len * size ∧ VRels (cx X p w m.hp) cs us ∧ (cs ≠ [] → ∃ ad, A = some ad ∧ ∀ j x, us[j]? = some x → w.cell? (ad.add j) = some x) := by
  unfold aCells at hc
  split at hc
  · cases hc
    simp only [VRel] at h
    exact ⟨none, 0, 0, [], h, by simp, rfl, fun hn => absurd rfl hn⟩
  · rename_i b sz len cells
    split at hc
    · rename_i hq
      obtain ⟨rfl, hle⟩ := hq
      cases hc
      obtain ⟨A, cap, rfl, h1, h2, h3, h4⟩ := h
      by_cases hne : cells = []
      · subst hne
        refine ⟨A, len, cap, [], rfl, ?_, by simp [VRels], fun hn => by simp at hn⟩
        simp only [List.length_nil, Nat.le_zero] at hle
        simp [hle]
      · obtain ⟨ad, us, rfl, hok, hr, hcell⟩ := h4 hne
        refine ⟨_, len, cap, us.take (len * sz), rfl, by simp; omega, hr.take _, fun _ => ⟨ad, rfl, fun j x hx => ?_⟩⟩
        rw [List.getElem?_take] at hx
        split at hx
        · exact hcell j x hx
        · cases hx
    · cases hc
  · rename_i id off sz len acap ep
    simp only [Option.bind_eq_some_iff] at hc
    obtain ⟨cells, h1, hc⟩ := hc
    split at hc
    · rename_i hq
      obtain ⟨hl, rfl, hla, hfit⟩ := hq
      cases hc
      have hls : len * sz ≤ acap * sz := Nat.mul_le_mul_right _ hla
      rcases own_cur h h1 hl with ⟨b, z, cap, o', hb, rfl, ho', hac, hcm, hlc, hz⟩ | ⟨hb, hz, rfl, rfl, rfl, rfl⟩
      · obtain ⟨us, el, lo, hi, k1, k2, k3, k4, k5⟩ := hm.hp id cells b z h1 hb
        refine ⟨_, len, cap, ((us.toList.take cells.length).drop off).take (len * sz), rfl, by simp; omega, (k5.drop _).take _, fun hn => ⟨_, rfl, fun j x hx => ?_⟩⟩
        have hlen0 : 0 < len := by
          rcases Nat.eq_zero_or_pos len with h0 | h0
          · subst h0; simp at hn
          · exact h0
        obtain rfl := ho' (by omega)
        rw [add_plain, cell_row k1]
        rw [List.getElem?_take] at hx
        split at hx
        · rw [List.getElem?_drop, List.getElem?_take] at hx
          split at hx
          · simpa using hx
          · cases hx
        · cases hx
      · exact ⟨none, 0, 0, [], rfl, by simp, by simp [VRels], fun hn => by simp at hn⟩
    · cases hc
  · cases hc
/-- The first cells, as the model reads them. -/
theorem run_first {u : Value} {size n : Nat} {A : Option Addr} {len cap : Nat} {us : List Value} (hu : u = .slice A len cap) (hl : us.length = n * size) (hne : us ≠ [] → ∃ ad, A = some ad ∧ ∀ j x, us[j]? = some x → w.cell? (ad.add j) = some x) :
    (Builtin.firstCells size n u).run P w = .ok us.toArray w := by
  subst hu
  cases A with
  | some ad =>
    refine run_firstCells_some w size n ad len cap us hl fun j x hx => ?_
    have : us ≠ [] := by rintro rfl; simp at hx
    obtain ⟨ad', e, hc⟩ := hne this
    cases e
    exact hc j x hx
  | none =>
    have : us = [] := by
      by_cases h : us = []
      · exact h
      · obtain ⟨_, e, _⟩ := hne h; cases e
    subst this
    simp [Builtin.firstCells]
theorem cellBytes_rel {c : Cx} : ∀ {cs : List AV} {us : List Value} {bs : List UInt8}, cellBytes cs = some bs → VRels c cs us → ∃ xs : List Int, us = xs.map (Value.int .u8) ∧ bs = xs.map fun n => UInt8.ofNat n.toNat
  | [], us, bs, h, hr => by cases h; cases hr; exact ⟨[], rfl, rfl⟩
  | v :: r, us, bs, h, hr => by
    obtain ⟨x, xs, rfl, hx, _, hr'⟩ := hr
    unfold cellBytes at h
    split at h
    · rename_i e; cases e
    · rename_i n r' e
      cases e
      simp only [Option.map_eq_some_iff] at h
      obtain ⟨bs', h1, rfl⟩ := h
      obtain ⟨ns, rfl, rfl⟩ := cellBytes_rel h1 hr'
      simp only [VRel] at hx
      subst hx
      exact ⟨n :: ns, rfl, rfl⟩
    · cases h
theorem op_convert (H : Hyp X p w m ρ a) {t t' : TypeId} {x : Operand} (ho : o.op = .convert t t' x) (he : evalOp P rec fl ρ m o = some r) (hn : Out X p w m fl a o next Q r) : o.wp P a w next Q := by
  simp only [evalOp, ho, Option.bind_eq_some_iff] at he
  obtain ⟨xv, hx, he⟩ := he
  have hxr := H.val hx
  unfold aConvert at he
  split at he
  · rename_i q k q2 n hu1 hu2
    cases he
    simp only [VRel] at hxr
    exact op_value (v := .v (.sc _)) (w' := w) H (by simp [execOp, ho, convert, run_underlying hu1, run_underlying hu2, hxr, Conv.intToInt]) (Quiet.refl w) rfl hn
  · rename_i q q2 n hu1 hu2
    cases he
    simp only [VRel] at hxr
    exact op_value (v := .v (.sc _)) (w' := w) H (by simp [execOp, ho, convert, run_underlying hu1, run_underlying hu2, hxr, Conv.intToString]) (Quiet.refl w) rfl hn
  · rename_i s hu1 hu2
    cases he
    simp only [VRel] at hxr
    exact op_value (v := .v (.sc _)) (w' := w) H (by simp [execOp, ho, convert, run_underlying hu1, run_underlying hu2, hxr]) (Quiet.refl w) rfl hn
  · rename_i e s hu1 hu2
    simp only [VRel] at hxr
    split at he
    · rename_i hu3 hs3
      split at he
      · cases he
      · rename_i hroom
        obtain ⟨cap, w', g1, g2, g3, g4, rest, lo, hi, g5, g6, g7⟩ := run_toBytes (P := P) w e s (by omega)
        have hrun : (execOp a.eval o).run P w = .ok (.value (.slice (some ⟨w.heap.size, 0, none⟩) s.size cap)) w' := by
          simp [execOp, ho, convert, run_underlying hu1, run_underlying hu2, run_underlying hu3, hxr, g1]
        have hcr := strCells_rel (cx X p w m.hp) s
        have hcl := strCells_length s
        have hml : (s.data.map fun b => Value.int .u8 b.toNat).toList.length = s.size := by simp
        split at he
        · cases he
          refine newOwn_goes (n := 1) (z := cap) (acap := s.size) H rfl hrun g2 g7 (by rw [List.length_append, hml]; omega) (.inr g6) ?_ g3 g4 g3 (by omega) (by rw [hcl]; exact hn)
          rw [List.take_append_of_le_length (by omega), List.take_of_length_le (by omega)]
          exact hcr
        · cases he
          have hle := (g2.ext p).le_same (X := X) (h := m.hp) fun _ => rfl
          refine op_turns (v := .v (.snap false 1 s.size (strCells s))) (m' := m) H hrun (g2.ext p) hle (H.r.quiet g2) (.same fun _ h => h) (fun _ _ => rfl) rfl ?_ hn
          have hlt : w.heap.size < w'.heap.size := by
            rcases Nat.lt_or_ge w.heap.size w'.heap.size with h | h
            · exact h
            · rw [Array.getElem?_eq_none h] at g7; cases g7
          refine ⟨_, cap, rfl, g3, g4, by rw [hcl]; omega, fun _ => ⟨⟨w.heap.size, 0, none⟩, _, rfl, ⟨hlt, fun id z e => ?_, fun k e => ?_, fun hM => ?_⟩, hcr.mono hle _ _, fun j x hx => ?_⟩⟩
          · exact absurd (H.r.hsz id _ z e) (Nat.lt_irrefl _)
          · exact absurd (H.r.lsz k _ e) (Nat.lt_irrefl _)
          · exact absurd (H.lt _ hM) (Nat.lt_irrefl _)
          · show w'.cell? _ = _
            rw [add_plain, cell_row g7]
            have hj : j < (s.data.map fun b => Value.int .u8 b.toNat).toList.length := (List.getElem?_eq_some_iff.1 hx).1
            simp only [Nat.zero_add, List.getElem?_toArray]
            rw [List.getElem?_append_left hj]
            exact hx
    · cases he
  · rename_i e0 e id off size len acap ep hu1 hu2
    split at he
    · rename_i cs hsd hu3 hc
      split at he
      · rename_i hq
        cases he
        rcases own_cur hxr hc hq.1 with ⟨b, z, cap, o', hb, hxe, ho', hac, hcm, hlc, hz⟩ | ⟨_, h0, _⟩
        rotate_left
        · exact absurd (hq.1.symm.trans h0) hq.2
        obtain ⟨us, el, lo, hi, k1, k2, k3, k4, k5⟩ := H.r.hp id cs b z hc hb
        have hsh : w.shape? b = some (el, us.size) := by simp [World.shape?, k1]
        have hfz := freeze_heap w b us.size
        have ht : Turned w (w.freeze ⟨b, us.size, none⟩ 1) b := ⟨rfl, rfl, rfl, by simp [World.freeze], fun i hi => by rw [hfz, if_neg hi]⟩
        have hb' : ∃ lo' hi', (w.freeze ⟨b, us.size, none⟩ 1).heap[b]? = some (.cells us el (lo', hi')) ∧ (lo' = hi' ∨ z ≤ lo') := by
          rw [hfz, if_pos rfl, k1]
          simp only [Option.map_some, Option.some.injEq, Obj.cells.injEq, true_and]
          by_cases he : lo = hi
          · rw [if_pos (by simp [he])]
            exact ⟨_, _, rfl, .inr (by omega)⟩
          · rw [if_neg (by simp [he])]
            exact ⟨_, _, rfl, .inr (by have := k3.resolve_left he; simp only [Nat.le_min]; omega)⟩
        obtain ⟨lo', hi', g1, g2⟩ := hb'
        have hid := (List.getElem?_eq_some_iff.1 hc).1
        have hset : m.hp.set id cs = m.hp := by
          apply List.ext_getElem?
          intro i
          by_cases e : i = id
          · subst e; rw [hc]; simp [hid]
          · rw [List.getElem?_set_ne (fun x => e x.symm)]
        have hle0 : (cx X p w m.hp).le (cx X p (w.freeze ⟨b, us.size, none⟩ 1) m.hp) := (ht.extH hb).le_same fun _ => rfl
        obtain ⟨q1, q2, q3⟩ := H.r.setH hb ht hc rfl (by rw [hset]; exact ⟨us, el, lo', hi', g1, k2, g2, k4, k5.mono hle0 _ _⟩)
        rw [hset] at q1 q2
        refine op_turns (v := .v (.own id off size len acap ep)) (m' := m) (u := a.eval x) H ?_ q3 q2 q1 (.same fun _ h => h) (fun _ _ => rfl) rfl (hxr.mono q2 _ _) hn
        simp [execOp, ho, convert, run_underlying hu1, run_underlying hu2, run_underlying hu3, hxe, hsd, markStringish, hsh]
      · cases he
    · cases he
  · rename_i _ _ e hu1 hu2
    split at he
    · rename_i hu3
      simp only [Option.bind_eq_some_iff, Option.map_eq_some_iff] at he
      obtain ⟨cs, hcs, bs, hbs, rfl⟩ := he
      obtain ⟨A, len, cap, us, hue, hlen, hr, hne⟩ := aCells_rel H.r hxr hcs
      obtain ⟨xs, rfl, rfl⟩ := cellBytes_rel hbs hr
      have hl := hr.length
      simp at hl
      refine op_value (v := .v (.sc (.string (strOfNums xs)))) (u := .string (strOfNums xs)) (w' := w) H ?_ (Quiet.refl w) rfl hn
      suffices hh : (convert t t' (a.eval x)).run P w = .ok (.string (strOfNums xs)) w by simp [execOp, ho, hh]
      rw [hue]
      cases A with
      | none =>
        have h0 : cs = [] := by
          by_cases h : cs = []
          · exact h
          · obtain ⟨_, e, _⟩ := hne h; cases e
        subst h0
        have : xs = [] := List.eq_nil_of_length_eq_zero (by simpa using hl)
        subst this
        exact run_convert_bytes_nil w t e hu1 hu3 len cap t' hu2
      | some ad =>
        by_cases h0 : len = 0
        · subst h0
          have : xs = [] := List.eq_nil_of_length_eq_zero (by omega)
          subst this
          obtain ⟨b, off, sp⟩ := ad
          simp [convert, run_underlying hu1, run_underlying hu2, run_underlying hu3, Conv.bytesToString, loadCells, loadCellsFrom]
          rfl
        · obtain ⟨ad', e, hcell⟩ := hne (by rintro rfl; simp at hlen; omega)
          cases e
          have hxl : xs.length = len := by omega
          have h1 := hcell 0 (.int .u8 (xs.getD 0 0)) (by
            have : 0 < xs.length := by omega
            simp [List.getElem?_eq_getElem this, List.getD_eq_getElem?_getD])
          rw [add_zero] at h1
          have hsp : ad.spot = none := by
            unfold World.cell? at h1
            split at h1
            · cases hs : ad.spot with
              | none => rfl
              | some k => simp [hs] at h1
            · cases h1
          obtain ⟨b, off, sp⟩ := ad
          simp only at hsp
          subst hsp
          refine run_convert_bytes_arg w t e hu1 hu3 b off len cap xs hxl (fun i hi => ?_) t' hu2
          have := hcell i (.int .u8 (xs.getD i 0)) (by
            have : i < xs.length := by omega
            simp [List.getElem?_eq_getElem this, List.getD_eq_getElem?_getD])
          rwa [add_plain] at this
    · cases he
  · cases he
end
end Go.Ai
