/- The abstract interpreter: words for what functions answer: values without objects, lists, calls. -/
import Derived.Test.YtjijnkiojpajeaaGreatDoorAiK
import Derived.IntWalk
set_option linter.unusedVariables false
set_option linter.unusedSectionVars false
namespace Go.Ai
variable [Glob]
/-! ### values without objects -/
mutual
def pv : AV → Bool
  | .sc _ => true
  | .agg cs => pvs cs
  | .tup vs => pvs vs
  | .ifc _ v => pv v
  | .fn _ a c => pvs a && pvs c
  | .nils => true
  | .snap _ _ _ cs => pvs cs
  | .sp _ cs => pvs cs
  | .own _ _ _ _ _ _ => false
  | .ptr _ _ _ => false
  | .junk => false
def pvs : List AV → Bool
  | [] => true
  | v :: r => pv v && pvs r
end
mutual
theorem mapOwn_pv {g : AV → Option AV} : ∀ (a : AV), pv a = true → mapOwn g a = some a
  | .sc _, _ => rfl
  | .agg cs, h => by simp only [pv] at h; simp only [mapOwn, mapOwns_pv cs h, Option.map_some]
  | .tup vs, h => by simp only [pv] at h; simp only [mapOwn, mapOwns_pv vs h, Option.map_some]
  | .ifc _ v, h => by simp only [pv] at h; simp only [mapOwn, mapOwn_pv v h, Option.map_some]
  | .fn _ a c, h => by
    simp only [pv, Bool.and_eq_true] at h
    simp only [mapOwn, mapOwns_pv a h.1, mapOwns_pv c h.2, Option.bind_some, Option.map_some]
  | .nils, _ => rfl
  | .snap _ _ _ cs, h => by simp only [pv] at h; simp only [mapOwn, mapOwns_pv cs h, Option.map_some]
  | .sp _ cs, h => by simp only [pv] at h; simp only [mapOwn, mapOwns_pv cs h, Option.map_some]
  | .own _ _ _ _ _ _, h => by simp [pv] at h
  | .ptr _ _ _, h => by simp [pv] at h
  | .junk, h => by simp [pv] at h
theorem mapOwns_pv {g : AV → Option AV} : ∀ (l : List AV), pvs l = true → mapOwns g l = some l
  | [], _ => rfl
  | v :: r, h => by
    simp only [pvs, Bool.and_eq_true] at h
    simp only [mapOwns, mapOwn_pv v h.1, mapOwns_pv r h.2, Option.bind_some, Option.map_some]
end
theorem tree_pv {bw : Bool} {h : Heap} {n : Nat} {a : AV} (k : pv a = true) : tree bw h n a = some a := by
  cases n <;> exact mapOwn_pv a k
theorem lend_pv {h : Heap} {args : List AV} (k : pvs args = true) : lend h args = some args := by
  unfold lend
  split
  · rfl
  · unfold deep
    exact mapOwns_pv args k
theorem lend_nil {args : List AV} : lend [] args = some args := rfl
theorem give_nil {v : AV} : give [] [] v = some v := rfl
theorem give_pv {h h' : Heap} {v : AV} (hp : pv v = true) (hl : lasting v = true) : give h h' v = some v := by
  unfold give
  cases h' with
  | nil => cases h <;> simp [hl]
  | cons x r => cases h <;> simp [tree_pv hp, hl]
theorem give_sc {h h' : Heap} {v : Value} : give h h' (.sc v) = some (.sc v) := give_pv rfl rfl
theorem give_nil_pv {h' : Heap} {v : AV} (hp : pv v = true) : give [] h' v = some v := by
  unfold give
  cases h' with
  | nil => rfl
  | cons x r => simp [tree_pv hp]
theorem pvs_append {a b : List AV} : pvs (a ++ b) = (pvs a && pvs b) := by
  induction a with
  | nil => simp [pvs]
  | cons v r ih => simp [pvs, ih, Bool.and_assoc]
theorem pvs_iff {l : List AV} : pvs l = true ↔ ∀ v ∈ l, pv v = true := by
  induction l with
  | nil => simp [pvs]
  | cons v r ih => simp [pvs, ih]
theorem pvs_take {l : List AV} (n : Nat) (h : pvs l = true) : pvs (l.take n) = true := pvs_iff.2 fun v hv => pvs_iff.1 h v (List.mem_of_mem_take hv)
theorem pvs_drop {l : List AV} (n : Nat) (h : pvs l = true) : pvs (l.drop n) = true := pvs_iff.2 fun v hv => pvs_iff.1 h v (List.mem_of_mem_drop hv)

/-! ### calls -/
section
variable {X : Type} {R : Rec} {m : Mm} {K : FuncId} {args as : List AV} {h' : Heap} {v v' : AV}
theorem xPure_of {kp k : AV → Option X} (hl : lend m.hp args = some as) (hr : R (.call K as []) = some (.call (.ret v) h')) (hg : give m.hp h' v = some v') : xPureR R m K args kp k = k v' := by
  simp only [xPureR, xPure, hl, hr, hg, Option.bind_some]
theorem xPure_sc {kp k : AV → Option X} {c : Value} (hp : pvs args = true) (hr : R (.call K args []) = some (.call (.ret (.sc c)) h')) : xPureR R m K args kp k = k (.sc c) :=
  xPure_of (lend_pv hp) hr give_sc
theorem xPure_nil {kp k : AV → Option X} (hm : m.hp = []) (hr : R (.call K args []) = some (.call (.ret v) h')) (hg : give [] h' v = some v') : xPureR R m K args kp k = k v' :=
  xPure_of (by rw [hm]; rfl) hr (by rw [hm]; exact hg)
theorem xCall_of {kp k : AV → Mm → Option X} (hr : R (.call K args m.hp) = some (.call (.ret v) h')) : xCallR R m K args kp k = k v { m with hp := h' } := by
  simp only [xCallR, xCall, hr, Option.bind_some]
end
/-! ### slices that are read -/
/-- A slice of n elements of so many cells each. -/
def Sl (size n : Nat) (cs : List AV) (a : AV) : Prop :=
  n ≤ room ∧ ((a = .nils ∧ n = 0 ∧ cs = []) ∨ ∃ b ds, a = .snap b size n ds ∧ ds.take (n * size) = cs ∧ n * size ≤ ds.length ∧ pvs ds = true)
theorem Sl.len {size n : Nat} {cs : List AV} {a : AV} (h : Sl size n cs a) {m : Mm} : aLenS m a = some n := by
  rcases h with ⟨_, ⟨rfl, rfl, _⟩ | ⟨b, ds, rfl, _⟩⟩ <;> rfl
theorem Sl.pv {size n : Nat} {cs : List AV} {a : AV} (h : Sl size n cs a) : pv a = true := by
  rcases h with ⟨_, ⟨rfl, _⟩ | ⟨b, ds, rfl, _, _, h⟩⟩
  · rfl
  · exact h
theorem Sl.length {size n : Nat} {cs : List AV} {a : AV} (h : Sl size n cs a) : cs.length = n * size := by
  rcases h with ⟨_, ⟨_, rfl, rfl⟩ | ⟨b, ds, _, rfl, h, _⟩⟩
  · simp
  · simp; omega
theorem Sl.pvs {size n : Nat} {cs : List AV} {a : AV} (h : Sl size n cs a) : pvs cs = true := by
  rcases h with ⟨_, ⟨_, rfl, rfl⟩ | ⟨b, ds, _, rfl, _, h⟩⟩
  · rfl
  · exact pvs_take _ h
theorem Sl.snap {b : Bool} {size n : Nat} {cs : List AV} (h : cs.length = n * size) (hp : Ai.pvs cs = true) (hr : n ≤ room) : Sl size n cs (.snap b size n cs) :=
  ⟨hr, .inr ⟨b, cs, rfl, by rw [← h, List.take_length], by omega, hp⟩⟩
theorem Sl.nils {size : Nat} : Sl size 0 [] .nils := ⟨Nat.zero_le _, .inl ⟨rfl, rfl, rfl⟩⟩
theorem Sl.room {size n : Nat} {cs : List AV} {a : AV} (h : Sl size n cs a) : n ≤ room := h.1
/-- An element's address, and what lies there. -/
theorem Sl.at_ {size n : Nat} {cs : List AV} {a : AV} (h : Sl size n cs a) (hs : 0 < size) {i : Nat} (hi : i < n) {m : Mm} :
    ∃ s, aIndexS m size (i : Int) a = some s ∧ aLoad true size m s = some (.agg ((cs.drop (i * size)).take size)) ∧
      (∀ off v, ((cs.drop (i * size)).take size)[off]? = some v → ∃ s', aField m off s = some s' ∧ aLoad false 1 m s' = some v) ∧
      (∀ v, ((cs.drop (i * size)).take size)[0]? = some v → aLoad false 1 m s = some v) := by
  rcases h with ⟨_, ⟨_, rfl, _⟩ | ⟨b, ds, rfl, rfl, hle, _⟩⟩
  · omega
  have h1 : i * size + size ≤ n * size := by
    have := Nat.mul_le_mul_right size (Nat.succ_le_of_lt hi)
    rw [Nat.succ_mul] at this
    exact this
  have key : ((ds.take (n * size)).drop (i * size)).take size = (ds.drop (i * size)).take size := by
    rw [List.drop_take, List.take_take, Nat.min_eq_left (by omega)]
  rw [key]
  refine ⟨.v (.sp b (ds.drop (i * size))), ?_, ?_, fun off v hv => ⟨.v (.sp b ((ds.drop (i * size)).drop off)), rfl, ?_⟩, fun v hv => ?_⟩
  · unfold aIndexS
    simp only
    rw [if_pos ⟨trivial, hs, hle, by omega, by omega⟩]
    rfl
  · simp only [aLoad, cellsAt, Option.bind_some, rdCells, if_true, List.drop_zero, List.length_drop, Nat.zero_add]
    rw [if_pos (by omega)]
  · simp only [aLoad, cellsAt, Option.bind_some, rdCells, Bool.false_eq_true, if_false]
    rw [List.getElem?_take] at hv
    split at hv
    · rw [List.getElem?_drop] at hv ⊢
      simpa using hv
    · cases hv
  · simp only [aLoad, cellsAt, Option.bind_some, rdCells, Bool.false_eq_true, if_false]
    rw [List.getElem?_take] at hv
    rw [if_pos hs] at hv
    exact hv
/-- A list, each element as it is represented. -/
def Li {α : Type} (size : Nat) (Q : List AV → α → Prop) (l : List α) (a : AV) : Prop := ∃ cs, Sl size l.length cs a ∧ ∀ i x, l[i]? = some x → Q ((cs.drop (i * size)).take size) x
section
variable {α : Type} {size : Nat} {Q : List AV → α → Prop} {l : List α} {a : AV}
theorem Li.len (h : Li size Q l a) {m : Mm} : aLenS m a = some l.length := by
  obtain ⟨cs, h, _⟩ := h
  exact h.len
theorem Li.pv (h : Li size Q l a) : pv a = true := by
  obtain ⟨cs, h, _⟩ := h
  exact h.pv
theorem Li.at_ (h : Li size Q l a) (hs : 0 < size) {i : Nat} {x : α} (hi : l[i]? = some x) {m : Mm} :
    ∃ s cells, aIndexS m size (i : Int) a = some s ∧ Q cells x ∧ cells.length = size ∧ Ai.pvs cells = true ∧ aLoad true size m s = some (.agg cells) ∧
      (∀ off v, cells[off]? = some v → ∃ s', aField m off s = some s' ∧ aLoad false 1 m s' = some v) ∧ (∀ v, cells[0]? = some v → aLoad false 1 m s = some v) := by
  obtain ⟨cs, h, hq⟩ := h
  obtain ⟨hlt, _⟩ := List.getElem?_eq_some_iff.1 hi
  obtain ⟨s, h1, h2, h3, h4⟩ := h.at_ hs hlt (m := m)
  have hl := h.length
  have h5 : i * size + size ≤ l.length * size := by
    have := Nat.mul_le_mul_right size (Nat.succ_le_of_lt hlt)
    rw [Nat.succ_mul] at this
    exact this
  exact ⟨s, _, h1, hq i x hi, by simp; omega, pvs_take _ (pvs_drop _ h.pvs), h2, h3, h4⟩
theorem Li.room (h : Li size Q l a) : l.length ≤ Ai.room := by
  obtain ⟨cs, h, _⟩ := h
  exact h.room
theorem Li.nils : Li size Q [] .nils := ⟨[], Sl.nils, fun i x h => by simp at h⟩
end
/-- Elements of one cell. -/
def one {α : Type} (f : α → AV) : List AV → α → Prop := fun c x => c = [f x]
theorem Li.get1 {α : Type} {f : α → AV} {l : List α} {a : AV} (h : Li 1 (one f) l a) {i : Nat} {x : α} (hi : l[i]? = some x) {m : Mm} :
    ∃ s, aIndexS m 1 (i : Int) a = some s ∧ aLoad false 1 m s = some (f x) := by
  obtain ⟨s, cells, h1, h2, _, _, _, _, h3⟩ := h.at_ (by omega) hi (m := m)
  exact ⟨s, h1, h3 _ (by rw [show cells = [f x] from h2]; rfl)⟩
theorem Li.map1 {α : Type} {f : α → AV} {l : List α} {b : Bool} (hf : ∀ x, Ai.pv (f x) = true) (hr : l.length ≤ Ai.room) : Li 1 (one f) l (.snap b 1 l.length (l.map f)) :=
  ⟨l.map f, Sl.snap (by simp) (pvs_iff.2 fun v hv => by obtain ⟨x, _, rfl⟩ := List.mem_map.1 hv; exact hf x) hr, fun i x hx => by
    obtain ⟨hlt, rfl⟩ := List.getElem?_eq_some_iff.1 hx
    simp only [one, Nat.mul_one]
    apply List.ext_getElem?
    intro j
    cases j with
    | zero => simp [hlt]
    | succ j =>
      rw [List.getElem?_eq_none (by simp; omega)]
      rfl⟩
end Go.Ai
namespace Go.Ai
variable [Glob]
/-! ### rewriting -/
theorem xBin_int {P : Program} {isb : Bool} {t : TypeId} {op : BinOp} {k : IntKind} {a b : Int} (h : op ≠ .shl ∧ op ≠ .shr) : xBin P isb t op (.sc (.int k a)) (.sc (.int k b)) = aIntOp op k a b := by
  simp only [xBin, aBin]
  split
  · exact absurd rfl h.1
  · exact absurd rfl h.2
  · simp
section
variable {P : Program} {isb : Bool} {t : TypeId} {k : IntKind} {a b : Int}
@[simp] theorem xBin_add : xBin P isb t .add (.sc (.int k a)) (.sc (.int k b)) = some (.sc (.int k (k.wrap (a + b)))) := xBin_int (by decide)
@[simp] theorem xBin_sub : xBin P isb t .sub (.sc (.int k a)) (.sc (.int k b)) = some (.sc (.int k (k.wrap (a - b)))) := xBin_int (by decide)
@[simp] theorem xBin_mul : xBin P isb t .mul (.sc (.int k a)) (.sc (.int k b)) = some (.sc (.int k (k.wrap (a * b)))) := xBin_int (by decide)
@[simp] theorem xBin_eql : xBin P isb t .eql (.sc (.int k a)) (.sc (.int k b)) = some (mkBool (decide (a = b))) := by rw [xBin_int (by decide)]; simp only [aIntOp]; congr 2
@[simp] theorem xBin_neq : xBin P isb t .neq (.sc (.int k a)) (.sc (.int k b)) = some (mkBool (!decide (a = b))) := by rw [xBin_int (by decide)]; simp only [aIntOp]; congr 2
@[simp] theorem xBin_lss : xBin P isb t .lss (.sc (.int k a)) (.sc (.int k b)) = some (mkBool (decide (a < b))) := xBin_int (by decide)
@[simp] theorem xBin_leq : xBin P isb t .leq (.sc (.int k a)) (.sc (.int k b)) = some (mkBool (decide (a ≤ b))) := xBin_int (by decide)
@[simp] theorem xBin_gtr : xBin P isb t .gtr (.sc (.int k a)) (.sc (.int k b)) = some (mkBool (decide (a > b))) := xBin_int (by decide)
@[simp] theorem xBin_geq : xBin P isb t .geq (.sc (.int k a)) (.sc (.int k b)) = some (mkBool (decide (a ≥ b))) := xBin_int (by decide)
@[simp] theorem xBin_bneq {x y : Bool} : xBin P true t .neq (.sc (.bool x)) (.sc (.bool y)) = some (mkBool (!(x == y))) := (rfl)
@[simp] theorem xBin_beql {x y : Bool} : xBin P true t .eql (.sc (.bool x)) (.sc (.bool y)) = some (mkBool (x == y)) := (rfl)
@[simp] theorem boolv_b {b : Bool} : boolv (.sc (.bool b)) = some b := (rfl)
@[simp] theorem boolv_mk {b : Bool} : boolv (mkBool b) = some b := (rfl)
@[simp] theorem intv_i : intv (.sc (.int k a)) = some (k, a) := (rfl)
@[simp] theorem intv_mk : intv (mkInt a) = some (.i64, a) := (rfl)
@[simp] theorem strv_s {s : ByteArray} : strv (.sc (.string s)) = some s := (rfl)
@[simp] theorem wantS_b {b w : Bool} : wantS (.v (.sc (.bool b))) w = some (b == w) := (rfl)
@[simp] theorem wantS_mk {b w : Bool} : wantS (.v (mkBool b)) w = some (b == w) := (rfl)
@[simp] theorem wantS_t {l : List AV} {w : Bool} : wantS (.v (.tup l)) w = some false := (rfl)
@[simp] theorem valOf_v {v : AV} : valOf (.v v) = some v := (rfl)
@[simp] theorem vof_v {v : AV} : vof (.v v) = v := (rfl)
@[simp] theorem unl_v {j : Nat} {v : AV} : unl j (.v v) = .v v := (rfl)
@[simp] theorem pickS_v {t : Bool} {x y : AV} : pickS t (.v x) (.v y) = .v (if t = true then x else y) := (rfl)
@[simp] theorem aUn_not {b : Bool} : aUn .not (.sc (.bool b)) = some (mkBool (!b)) := (rfl)
@[simp] theorem aUn_notm {b : Bool} : aUn .not (mkBool b) = some (mkBool (!b)) := (rfl)
@[simp] theorem xJoin_n {e : Env} {m : Mm} {f : Env → Mm → Rs} : xJoin (retN e m) f = f e m := (rfl)
@[simp] theorem xJoin_sn {e : Env} {m : Mm} {f : Env → Mm → Rs} : xJoin (some (.normal, e, m)) f = f e m := (rfl)
@[simp] theorem xJoin_ret {e : Env} {m : Mm} {f : Env → Mm → Rs} : xJoin (some (.ret, e, m)) f = some (.ret, e, m) := (rfl)
@[simp] theorem xJoin_exit {i : Nat} {e : Env} {m : Mm} {f : Env → Mm → Rs} : xJoin (some (.exit i, e, m)) f = some (.exit i, e, m) := (rfl)
@[simp] theorem xJoin_pan {v : AV} {e : Env} {m : Mm} {f : Env → Mm → Rs} : xJoin (some (.pan v, e, m)) f = some (.pan v, e, m) := (rfl)
@[simp] theorem xBlock_n {i : Nat} {e : Env} {m : Mm} {f : Env → Mm → Rs} : xBlock i (retN e m) f = f e m := (rfl)
@[simp] theorem xBlock_sn {i : Nat} {e : Env} {m : Mm} {f : Env → Mm → Rs} : xBlock i (some (.normal, e, m)) f = f e m := (rfl)
@[simp] theorem xBlock_exit {i j : Nat} {e : Env} {m : Mm} {f : Env → Mm → Rs} : xBlock i (some (.exit j, e, m)) f = if j = i then f e m else some (.exit j, e, m) := (rfl)
@[simp] theorem xBlock_ret {i : Nat} {e : Env} {m : Mm} {f : Env → Mm → Rs} : xBlock i (some (.ret, e, m)) f = some (.ret, e, m) := (rfl)
@[simp] theorem xBlock_pan {i : Nat} {v : AV} {e : Env} {m : Mm} {f : Env → Mm → Rs} : xBlock i (some (.pan v, e, m)) f = some (.pan v, e, m) := (rfl)
@[simp] theorem xGuard_f {X : Type} {r : Option OR} {m : Mm} {kp : AV → Mm → Option X} {f : SV → Mm → Option X} : xGuardR false r m kp f = f (.v (.tup [])) m := (rfl)
@[simp] theorem xGuard_t {X : Type} {v : SV} {m m' : Mm} {kp : AV → Mm → Option X} {f : SV → Mm → Option X} : xGuardR true (retV v m') m kp f = f v m' := (rfl)
@[simp] theorem xGuard_ts {X : Type} {v : SV} {m m' : Mm} {kp : AV → Mm → Option X} {f : SV → Mm → Option X} : xGuardR true (some (.val v m')) m kp f = f v m' := (rfl)
@[simp] theorem xGuardQ_f {X : Type} {r : Option SV} {f : SV → Option X} : xGuardQ false r f = f (.v (.tup [])) := (rfl)
@[simp] theorem xGuardQ_t {X : Type} {v : SV} {f : SV → Option X} : xGuardQ true (some v) f = f v := (rfl)
@[simp] theorem xRound_ret {R : Rec} {e : Env} {m : Mm} {f : Env → Mm → Task} : xRound R (some (.ret, e, m)) f = some (.loop .ret ⟨e, m⟩) := (rfl)
@[simp] theorem xRound_exit {R : Rec} {i : Nat} {e : Env} {m : Mm} {f : Env → Mm → Task} : xRound R (some (.exit i, e, m)) f = some (.loop (.exit i) ⟨e, m⟩) := (rfl)
@[simp] theorem xRound_pan {R : Rec} {v : AV} {e : Env} {m : Mm} {f : Env → Mm → Task} : xRound R (some (.pan v, e, m)) f = some (.loop (.pan v) ⟨e, m⟩) := (rfl)
@[simp] theorem xRound_n {R : Rec} {e : Env} {m : Mm} {f : Env → Mm → Task} : xRound R (retN e m) f = R (f e m) := (rfl)
theorem xLoop_of {R : Rec} {t : Task} {x : Ex} {s : St} {k : Env → Mm → Rs} (h : R t = some (.loop x s)) : xLoop R t k = contN k (x, s.env, s.mm) := by simp only [xLoop, h, Option.bind_some]
@[simp] theorem contN_n {k : Env → Mm → Rs} {e : Env} {m : Mm} : contN k (.normal, e, m) = k e m := (rfl)
@[simp] theorem contN_ret {k : Env → Mm → Rs} {e : Env} {m : Mm} : contN k (.ret, e, m) = some (.ret, e, m) := (rfl)
@[simp] theorem contN_exit {k : Env → Mm → Rs} {e : Env} {m : Mm} {i : Nat} : contN k (.exit i, e, m) = some (.exit i, e, m) := (rfl)
@[simp] theorem contN_pan {k : Env → Mm → Rs} {e : Env} {m : Mm} {v : AV} : contN k (.pan v, e, m) = some (.pan v, e, m) := (rfl)
@[simp] theorem m0_hp {h : Heap} : (m0 h).hp = h := (rfl)
@[simp] theorem mset_hp {m : Mm} {j : Nat} {cs : List AV} : (mset m j cs).hp = m.hp := (rfl)
@[simp] theorem mkeep_hp {m : Mm} {l : List Nat} : (mkeep m l).hp = m.hp := (rfl)
end
end Go.Ai
namespace Go.Ai
variable [Glob]
/-! ### lists by key -/
theorem aget_hit {β : Type} {i : Nat} {v : β} {r : List (Nat × β)} : aget ((i, v) :: r) i = some v := by simp [aget]
theorem aget_miss {β : Type} {k i : Nat} {v : β} {r : List (Nat × β)} (h : k ≠ i) : aget ((k, v) :: r) i = aget r i := by simp [aget, nbeq h]
@[simp] theorem aget_nil {β : Type} {i : Nat} : aget ([] : List (Nat × β)) i = none := (rfl)
@[simp] theorem aset_nil {β : Type} {i : Nat} {v : β} : aset [] i v = [(i, v)] := (rfl)
@[simp] theorem aset_hit {β : Type} {i : Nat} {v w : β} {r : List (Nat × β)} : aset ((i, w) :: r) i v = (i, v) :: r := by simp [aset]
@[simp] theorem aset_gt {β : Type} {k i : Nat} {v w : β} {r : List (Nat × β)} (h : k < i) : aset ((k, w) :: r) i v = (k, w) :: aset r i v := by
  have h1 : Nat.beq k i = false := nbeq (by omega)
  have h2 : Nat.ble i k = false := by
    cases e : Nat.ble i k with
    | false => rfl
    | true => have := Nat.le_of_ble_eq_true e; omega
  simp [aset, h1, h2]
@[simp] theorem aset_lt {β : Type} {k i : Nat} {v w : β} {r : List (Nat × β)} (h : i < k) : aset ((k, w) :: r) i v = (i, v) :: (k, w) :: r := by
  have h1 : Nat.beq k i = false := nbeq (by omega)
  have h2 : Nat.ble i k = true := Nat.ble_eq_true_of_le (by omega)
  simp [aset, h1, h2]
@[simp] theorem aget_hit' {β : Type} {i : Nat} {v : β} {r : List (Nat × β)} : aget ((i, v) :: r) i = some v := aget_hit
@[simp] theorem aget_miss' {β : Type} {k i : Nat} {v : β} {r : List (Nat × β)} (h : k ≠ i) : aget ((k, v) :: r) i = aget r i := aget_miss h
@[simp] theorem eget_hit {i : Nat} {s : SV} {r : Env} : eget ((i, s) :: r) i = s := by simp [eget]
@[simp] theorem eget_miss {k i : Nat} {s : SV} {r : Env} (h : k ≠ i) : eget ((k, s) :: r) i = eget r i := by simp [eget, h]
@[simp] theorem vget_hit {i : Nat} {a : AV} {r : Env} : vget ((i, .v a) :: r) i = a := by simp [vget]
@[simp] theorem vget_miss {k i : Nat} {s : SV} {r : Env} (h : k ≠ i) : vget ((k, s) :: r) i = vget r i := by simp [vget, h]
@[simp] theorem recut_def {l : List (Nat × Bool)} {e : Env} : recut l e = recutIn e l [] := (rfl)
@[simp] theorem recutIn_nil {e acc : Env} : recutIn e [] acc = acc := (rfl)
@[simp] theorem recutIn_t {e acc : Env} {i : Nat} {r : List (Nat × Bool)} : recutIn e ((i, true) :: r) acc = recutIn e r (aset acc i (.v (vget e i))) := (rfl)
@[simp] theorem recutIn_f {e acc : Env} {i : Nat} {r : List (Nat × Bool)} : recutIn e ((i, false) :: r) acc = recutIn e r (aset acc i (eget e i)) := (rfl)
theorem lkeep_cons {k : Nat} {o : LObj} {r : Loc} {s : List Nat} : lkeep ((k, o) :: r) s = if k ∈ s then (k, o) :: lkeep r s else lkeep r s := by
  have : mem s k = decide (k ∈ s) := by
    unfold mem
    rw [Bool.eq_iff_iff]
    simp [Nat.beq_eq]
  unfold lkeep
  rw [List.filter_cons, this]
  by_cases h : k ∈ s <;> simp [h]
@[simp] theorem lkeep_nil {s : List Nat} : lkeep [] s = [] := (rfl)
@[simp] theorem mkeep_mk {l : Loc} {h : Heap} {d : List AV} {s : List Nat} : mkeep ⟨l, h, d⟩ s = ⟨lkeep l s, h, d⟩ := (rfl)
@[simp] theorem mset_mk {l : Loc} {h : Heap} {d : List AV} {j : Nat} {cs : List AV} : mset ⟨l, h, d⟩ j cs = ⟨aset l j (.cells cs), h, d⟩ := (rfl)
@[simp] theorem mpush_mk {l : Loc} {h : Heap} {d : List AV} {cs : List AV} : mpush ⟨l, h, d⟩ cs = ⟨l, h ++ [cs], d⟩ := (rfl)
@[simp] theorem oneOrTup_one {v : AV} : oneOrTup [v] = v := (rfl)
theorem m0_mk {h : Heap} : m0 h = ⟨[], h, []⟩ := rfl
@[simp] theorem mkeep_m0 {h : Heap} {s : List Nat} : mkeep (m0 h) s = m0 h := (rfl)
end Go.Ai
namespace Go.Ai
variable [Glob]
theorem wrap_i64 {n : Int} (h1 : -9223372036854775808 ≤ n) (h2 : n < 9223372036854775808) : IntKind.i64.wrap n = n := IntWalk.i64_in n (by omega)
/-! ### a slice that grows -/
/-- A slice of the call's own, the last object but for none. -/
def Grown (h0 : Heap) (size n : Nat) (cs : List AV) (x : AV) (h : Heap) : Prop :=
  (x = .nils ∧ n = 0 ∧ cs = [] ∧ h = h0) ∨ (x = .own h0.length 0 size n n (n * size) ∧ h = h0 ++ [cs] ∧ cs.length = n * size)
theorem Grown.nils {h0 : Heap} {size : Nat} : Grown h0 size 0 [] .nils h0 := .inl ⟨rfl, rfl, rfl, rfl⟩
theorem Grown.append {h0 h : Heap} {size n bytes k : Nat} {cs new : List AV} {x y : AV} {l : Loc} {d : List AV} (g : Grown h0 size n cs x h) (hs : 0 < size) (hb : 0 < bytes) (hy : srcCells ⟨l, h, d⟩ size y = some new) (hn : new.length = k * size)
    (hr : (n + k) * bytes ≤ room) : ∃ x' h', aAppend ⟨l, h, d⟩ size bytes x y = some (x', ⟨l, h', d⟩) ∧ Grown h0 size (n + k) (cs ++ new) x' h' := by
  have hk : new.length / size = k := by rw [hn]; exact Nat.mul_div_cancel _ hs
  rcases g with ⟨rfl, rfl, rfl, rfl⟩ | ⟨rfl, rfl, hl⟩
  · by_cases h0 : new.length = 0
    · refine ⟨.nils, h, ?_, .inl ⟨rfl, ?_, ?_, rfl⟩⟩
      · simp only [aAppend]
        rw [if_neg (by omega), hy]
        simp only [Option.bind_some]
        rw [if_pos h0]
      · rw [h0] at hn
        rcases Nat.mul_eq_zero.1 hn.symm with e | e <;> omega
      · rw [List.length_eq_zero_iff.1 h0]; rfl
    · refine ⟨.own h.length 0 size k k new.length, h ++ [new], ?_, .inr ⟨by rw [hn]; simp, by simp, by simpa using hn⟩⟩
      simp only [aAppend]
      rw [if_neg (by omega), hy]
      simp only [Option.bind_some]
      rw [if_neg h0, hk, if_pos (by simpa using hr)]
  · have hget : (h0 ++ [cs])[h0.length]? = some cs := by simp
    by_cases k0 : k = 0
    · subst k0
      have hnew : new = [] := List.length_eq_zero_iff.1 (by simpa using hn)
      subst hnew
      refine ⟨.own h0.length 0 size n n (n * size), h0 ++ [cs], ?_, .inr ⟨by simp, by simp, by simpa using hl⟩⟩
      simp only [aAppend]
      rw [if_neg (by omega), hy]
      simp only [Option.bind_some, hget]
      rw [if_pos ⟨hl, trivial, Nat.le_refl _, by omega, by simpa using hr⟩]
      simp only [List.length_nil, Nat.zero_div, Nat.add_zero, Nat.le_refl, if_true]
      congr 4
      simp [splice]
    · refine ⟨.own h0.length 0 size (n + k) (n + k) (n * size + new.length), h0 ++ [cs ++ new], ?_, .inr ⟨by rw [hn, Nat.add_mul], rfl, by simp [hl, hn, Nat.add_mul]⟩⟩
      simp only [aAppend]
      rw [if_neg (by omega), hy]
      simp only [Option.bind_some, hget, hk]
      rw [if_pos ⟨hl, trivial, Nat.le_refl _, by omega, hr⟩, if_neg (by omega), if_pos ⟨trivial, trivial⟩]
      congr 4
      rw [List.take_of_length_le (by omega)]
      simp
theorem tree_own {h : Heap} {bw : Bool} {k id size n : Nat} {cs : List AV} (hget : h[id]? = some cs) (hl : cs.length = n * size) (hp : pvs cs = true) : tree bw h (k + 1) (.own id 0 size n n (n * size)) = some (.snap bw size n cs) := by
  simp only [tree, mapOwn, hget, Option.bind_some]
  rw [if_pos ⟨hl, Nat.le_refl _, by omega⟩, List.drop_zero, List.take_of_length_le (by omega)]
  have : mapOwns (tree bw h k) cs = some cs := by
    cases k <;> exact mapOwns_pv cs hp
  rw [this]
  rfl
theorem give_cons {x : List AV} {r : Heap} {v : AV} : give [] (x :: r) v = tree false (x :: r) deep v := by
  simp only [give]
  cases tree false (x :: r) deep v <;> rfl
theorem give_own {size n : Nat} {cs : List AV} {h : Heap} {x : AV} (g : Grown [] size n cs x h) (hp : pvs cs = true) : ∃ y, give [] h x = some y ∧ ((y = .nils ∧ n = 0 ∧ cs = []) ∨ (y = .snap false size n cs ∧ cs.length = n * size)) := by
  rcases g with ⟨rfl, rfl, rfl, rfl⟩ | ⟨rfl, rfl, hl⟩
  · exact ⟨.nils, give_nil_pv rfl, .inl ⟨rfl, rfl, rfl⟩⟩
  · refine ⟨.snap false size n cs, ?_, .inr ⟨rfl, hl⟩⟩
    rw [List.nil_append, give_cons]
    exact tree_own (k := 19) rfl hl hp
end Go.Ai
namespace Go.Ai
variable [Glob]
/-- A loop that looks whether two lists are the same. -/
theorem eq_loop {α : Type} {R : Rec} {T : Nat → Task} {h : Heap} {l l' : List α} {x0 : Ex} {eF : Env} (hl : l.length = l'.length) (hend : ∃ e lo, R (T l.length) = some (.loop x0 ⟨e, ⟨lo, h, []⟩⟩))
    (heq : ∀ i a, l[i]? = some a → l'[i]? = some a → ∀ r, R (T (i + 1)) = some r → R (T i) = some r)
    (hne : ∀ i a b, l[i]? = some a → l'[i]? = some b → a ≠ b → ∃ lo, R (T i) = some (.loop .ret ⟨eF, ⟨lo, h, []⟩⟩)) :
    ∃ x e lo, R (T 0) = some (.loop x ⟨e, ⟨lo, h, []⟩⟩) ∧ ((l = l' ∧ x = x0) ∨ (l ≠ l' ∧ x = .ret ∧ e = eF)) := by
  have key : ∀ n i, n = l.length - i → i ≤ l.length → ∃ x e lo, R (T i) = some (.loop x ⟨e, ⟨lo, h, []⟩⟩) ∧ ((l.drop i = l'.drop i ∧ x = x0) ∨ (l.drop i ≠ l'.drop i ∧ x = .ret ∧ e = eF)) := by
    intro n
    induction n with
    | zero =>
      intro i hn hi
      have e : i = l.length := by omega
      subst e
      obtain ⟨e, lo, h⟩ := hend
      exact ⟨x0, e, lo, h, .inl ⟨by rw [List.drop_length, hl, List.drop_length], rfl⟩⟩
    | succ n ih =>
      intro i hn hi
      have hlt : i < l.length := by omega
      have hlt' : i < l'.length := by omega
      have hd := List.drop_eq_getElem_cons hlt
      have hd' := List.drop_eq_getElem_cons hlt'
      have g := List.getElem?_eq_getElem hlt
      have g' := List.getElem?_eq_getElem hlt'
      rw [hd, hd']
      simp only [List.cons.injEq, ne_eq]
      by_cases hx : l[i] = l'[i]
      · obtain ⟨x, e, lo, h1, h2⟩ := ih (i + 1) (by omega) (by omega)
        refine ⟨x, e, lo, heq i _ g (by rw [hx]; exact g') _ h1, ?_⟩
        rcases h2 with ⟨h2, h3⟩ | ⟨h2, h3⟩
        · exact .inl ⟨⟨hx, h2⟩, h3⟩
        · exact .inr ⟨fun h => h2 h.2, h3⟩
      · obtain ⟨lo, h1⟩ := hne i _ _ g g' hx
        exact ⟨.ret, eF, lo, h1, .inr ⟨fun h => hx h.1, rfl, rfl⟩⟩
  obtain ⟨x, e, lo, h1, h2⟩ := key l.length 0 (by omega) (Nat.zero_le _)
  exact ⟨x, e, lo, h1, by simpa using h2⟩
end Go.Ai
namespace Go.Ai
variable [Glob]
/-! ### what simp looks at: the first part alone -/
@[simp high] theorem bnd_some {α β : Type} {a : α} {f : α → Option β} : Option.bind (some a) f = f a := (rfl)
@[congr] theorem cg_bind {α β : Type} {x y : Option α} {f : α → Option β} (h : x = y) : Option.bind x f = Option.bind y f := by rw [h]
@[congr] theorem cg_join {r r' : Rs} {f : Env → Mm → Rs} (h : r = r') : xJoin r f = xJoin r' f := by rw [h]
@[congr] theorem cg_block {i : Nat} {r r' : Rs} {f : Env → Mm → Rs} (h : r = r') : xBlock i r f = xBlock i r' f := by rw [h]
@[congr] theorem cg_loop {R : Rec} {t t' : Task} {f : Env → Mm → Rs} (h : t = t') : xLoop R t f = xLoop R t' f := by rw [h]
@[congr] theorem cg_round {R : Rec} {r r' : Rs} {f : Env → Mm → Task} (h : r = r') : xRound R r f = xRound R r' f := by rw [h]
@[congr] theorem cg_guard {X : Type} {t t' : Bool} {r : Option OR} {m m' : Mm} {kp : AV → Mm → Option X} {k : SV → Mm → Option X} (h : t = t') (hm : m = m') : xGuardR t r m kp k = xGuardR t' r m' kp k := by rw [h, hm]
@[congr] theorem cg_guardQ {X : Type} {t t' : Bool} {r : Option SV} {k : SV → Option X} (h : t = t') : xGuardQ t r k = xGuardQ t' r k := by rw [h]
@[congr] theorem cg_pure {X : Type} {R : Rec} {m m' : Mm} {K K' : FuncId} {a a' : List AV} {kp k : AV → Option X} (hm : m = m') (hK : K = K') (h : a = a') : xPureR R m K a kp k = xPureR R m' K' a' kp k := by rw [h, hK, hm]
@[congr] theorem cg_call {X : Type} {R : Rec} {m m' : Mm} {K K' : FuncId} {a a' : List AV} {kp k : AV → Mm → Option X} (hm : m = m') (hK : K = K') (h : a = a') : xCallR R m K a kp k = xCallR R m' K' a' kp k := by rw [h, hK, hm]
@[simp] theorem xGuard_tt {X : Type} {r : Option OR} {m : Mm} {kp : AV → Mm → Option X} {f : SV → Mm → Option X} : xGuardR true r m kp f = r.bind (orK f kp) := (rfl)
@[simp] theorem xGuardQ_tt {X : Type} {r : Option SV} {f : SV → Option X} : xGuardQ true r f = r.bind f := (rfl)
@[simp] theorem orK_val {X : Type} {kp : AV → Mm → Option X} {f : SV → Mm → Option X} {v : SV} {m : Mm} : orK f kp (.val v m) = f v m := (rfl)
@[simp] theorem orK_pan {X : Type} {kp : AV → Mm → Option X} {f : SV → Mm → Option X} {v : AV} {m : Mm} : orK f kp (.pan v m) = kp v m := (rfl)
@[simp] theorem retV_def {v : SV} {m : Mm} : retV v m = some (.val v m) := (rfl)
@[simp] theorem retP_def {v : AV} {m : Mm} : retP v m = some (.pan v m) := (rfl)
end Go.Ai
namespace Go.Ai
variable [Glob]
theorem Sl.cells {size n : Nat} {cs : List AV} {a : AV} (h : Sl size n cs a) : cellsOf a = some [a] := by
  rcases h with ⟨_, ⟨rfl, _⟩ | ⟨b, ds, rfl, _⟩⟩ <;> rfl
theorem Li.cells {α : Type} {size : Nat} {Q : List AV → α → Prop} {l : List α} {a : AV} (h : Li size Q l a) : cellsOf a = some [a] := by
  obtain ⟨cs, h, _⟩ := h
  exact h.cells
@[simp] theorem cellsOf_agg {cs : List AV} : cellsOf (.agg cs) = some cs := (rfl)
@[simp] theorem cellsOf_int {k : IntKind} {n : Int} : cellsOf (.sc (.int k n)) = some [.sc (.int k n)] := (rfl)
@[simp] theorem cellsOf_bool {n : Bool} : cellsOf (.sc (.bool n)) = some [.sc (.bool n)] := (rfl)
@[simp] theorem cellsOf_str {n : ByteArray} : cellsOf (.sc (.string n)) = some [.sc (.string n)] := (rfl)
@[simp] theorem cellsOf_nils : cellsOf .nils = some [.nils] := (rfl)
@[simp] theorem cellsOf_own {a b c d e f : Nat} : cellsOf (.own a b c d e f) = some [.own a b c d e f] := (rfl)
@[simp] theorem cellsOf_snap {b : Bool} {a c : Nat} {d : List AV} : cellsOf (.snap b a c d) = some [.snap b a c d] := (rfl)
@[simp] theorem pls_get {l : List (Nat × Nat)} {i : Nat} : pls l i = l[i]? := (rfl)
@[simp] theorem plm_get {n i : Nat} : plm n i = some (i * n, n) := (rfl)
@[simp] theorem fillCells_nil {pl : Nat → Option (Nat × Nat)} {cs : List AV} : fillCells pl cs [] = some cs := (rfl)
theorem fillCells_cons {pl : Nat → Option (Nat × Nat)} {cs : List AV} {i : Nat} {v : AV} {r : List (Nat × AV)} {off k : Nat} {new : List AV} (h1 : pl i = some (off, k)) (h2 : cellsOf v = some new) (h3 : new.length = k) (h4 : off + k ≤ cs.length) :
    fillCells pl cs ((i, v) :: r) = fillCells pl (splice cs off new) r := by
  subst h3
  simp only [fillCells, h1, h2, Option.bind_some]
  rw [if_pos ⟨trivial, h4⟩]
end Go.Ai
namespace Go.Ai
variable [Glob]
/-! ### memory, address by address -/
@[simp] theorem aLoad_l {g : Bool} {n : Nat} {m : Mm} {k off : Nat} : aLoad g n m (.l k off) = (match aget m.loc k with | some (.cells cs) => rdCells g n cs off | _ => none) := by
  simp only [aLoad, cellsAt]
  split <;> rename_i h <;> simp [h]
theorem aLoad_p {g : Bool} {n : Nat} {m : Mm} {id off ep : Nat} : aLoad g n m (.v (.ptr id off ep)) = (m.hp[id]?).bind fun cs => if cs.length = ep then rdCells g n cs off else none := by
  simp only [aLoad, cellsAt]
  cases m.hp[id]? with
  | none => rfl
  | some cs => by_cases h : cs.length = ep <;> simp [h]
@[simp] theorem rdCells_f {n off : Nat} {cs : List AV} : rdCells false n cs off = cs[off]? := (rfl)
@[simp] theorem rdCells_t {n off : Nat} {cs : List AV} : rdCells true n cs off = if off + n ≤ cs.length then some (.agg ((cs.drop off).take n)) else none := (rfl)
@[simp] theorem aStore_l {g : Bool} {n : Nat} {m : Mm} {k off : Nat} {v : AV} : aStore g n m (.l k off) v = (cellsOf v).bind fun new => if new.length = n ∧ (g = true ∨ n = 1) then (match aget m.loc k with | some (.cells cs) => (wrCells cs off new).map fun cs' => { m with loc := aset m.loc k (.cells cs') } | _ => none) else none := (rfl)
theorem aStore_p {g : Bool} {n : Nat} {m : Mm} {id off ep : Nat} {v : AV} : aStore g n m (.v (.ptr id off ep)) v = (cellsOf v).bind fun new => if new.length = n ∧ (g = true ∨ n = 1) then ((m.hp[id]?).bind fun cs => if cs.length = ep then (wrCells cs off new).map fun cs' => { m with hp := m.hp.set id cs' } else none) else none := (rfl)
@[simp] theorem wrCells_one {cs : List AV} {off : Nat} {v : AV} : wrCells cs off [v] = if off < cs.length then some (cs.set off v) else none := (rfl)
@[simp] theorem wrCells_more {cs : List AV} {off : Nat} {v w : AV} {r : List AV} : wrCells cs off (v :: w :: r) = if off + (v :: w :: r).length ≤ cs.length then some (splice cs off (v :: w :: r)) else none := (rfl)
@[simp] theorem aField_l {m : Mm} {off k o : Nat} : aField m off (.l k o) = some (.l k (o + off)) := (rfl)
@[simp] theorem fnv_fn {f : FuncId} {a c : List AV} : fnv (.fn f a c) = some (f, a, c) := (rfl)
end Go.Ai
namespace Go.Ai
variable [Glob]
theorem runN_arun {P : Program} {A : FuncId → FAnn} : ∀ (n : Nat) (t : Task) (r : TR), runN P A n t = some r → arun P A t = some r
  | 0, _, _, h => by cases h
  | n + 1, t, r, h => by
    rw [arun_step]
    exact step_mono (fun t r h => runN_arun n t r h) t r h
def Bound : Int := 2147483647
/-- A loop that adds up, and stops where it is too much. -/
theorem sumB_loop {α : Type} {R : Rec} {T : Nat → Int → Task} {f : α → Nat} {l : List α} {h : Heap} {x0 : Ex} {E : Int → Env → Prop} (hf : ∀ x ∈ l, f x ≤ 2 ^ 50)
    (hend : ∀ acc, ∃ e lo, E acc e ∧ R (T l.length acc) = some (.loop x0 ⟨e, ⟨lo, h, []⟩⟩))
    (hbig : ∀ i acc, i < l.length → Bound < acc → ∃ e lo, E acc e ∧ R (T i acc) = some (.loop x0 ⟨e, ⟨lo, h, []⟩⟩))
    (hstep : ∀ i x acc, l[i]? = some x → 0 ≤ acc → acc ≤ Bound → f x ≤ 2 ^ 50 → ∀ r, R (T (i + 1) (acc + f x)) = some r → R (T i acc) = some r) (acc0 : Int) (h0 : 0 ≤ acc0) :
    ∃ v e lo, E v e ∧ R (T 0 acc0) = some (.loop x0 ⟨e, ⟨lo, h, []⟩⟩) ∧ acc0 ≤ v ∧ (v ≤ acc0 ∨ v ≤ Bound + 2 ^ 50) ∧ (v = acc0 + ((l.map f).sum : Nat) ∨ (Bound < v ∧ v ≤ acc0 + ((l.map f).sum : Nat))) := by
  have key : ∀ n i acc, n = l.length - i → i ≤ l.length → 0 ≤ acc → ∃ v e lo, E v e ∧ R (T i acc) = some (.loop x0 ⟨e, ⟨lo, h, []⟩⟩) ∧ acc ≤ v ∧ (v ≤ acc ∨ v ≤ Bound + 2 ^ 50) ∧ (v = acc + (((l.drop i).map f).sum : Nat) ∨ (Bound < v ∧ v ≤ acc + (((l.drop i).map f).sum : Nat))) := by
    intro n
    induction n with
    | zero =>
      intro i acc hn hi ha
      have e : i = l.length := by omega
      subst e
      obtain ⟨e, lo, h1, h2⟩ := hend acc
      exact ⟨acc, e, lo, h1, h2, by omega, .inl (by omega), .inl (by simp)⟩
    | succ n ih =>
      intro i acc hn hi ha
      have hlt : i < l.length := by omega
      have hd := List.drop_eq_getElem_cons hlt
      have g := List.getElem?_eq_getElem hlt
      rw [hd, List.map_cons, List.sum_cons]
      by_cases hb : acc ≤ Bound
      · have hfx := hf _ (List.getElem_mem hlt)
        obtain ⟨v, e, lo, h1, h2, h3, h4, h5⟩ := ih (i + 1) (acc + f l[i]) (by omega) (by omega) (by omega)
        refine ⟨v, e, lo, h1, hstep i _ acc g ha hb hfx _ h2, by omega, ?_, ?_⟩
        · rcases h4 with h4 | h4
          · right
            have : ((f l[i] : Nat) : Int) ≤ 2 ^ 50 := by exact_mod_cast hfx
            omega
          · exact .inr h4
        · rcases h5 with h5 | h5
          · left; omega
          · right; omega
      · obtain ⟨e, lo, h1, h2⟩ := hbig i acc hlt (by omega)
        exact ⟨acc, e, lo, h1, h2, by omega, .inl (by omega), .inr ⟨by omega, by omega⟩⟩
  simpa using key l.length 0 acc0 (by omega) (Nat.zero_le _) h0
end Go.Ai
namespace Go.Ai
variable [Glob]
@[simp] theorem aLenS_nils {m : Mm} : aLenS m .nils = some 0 := (rfl)
end Go.Ai
namespace Go.Ai
variable [Glob]
theorem lastings_iff {l : List AV} : lastings l = true ↔ ∀ v ∈ l, lasting v = true := by
  induction l with
  | nil => simp [lastings]
  | cons v r ih => simp [lastings, ih]
theorem lastings_append {a b : List AV} : lastings (a ++ b) = (lastings a && lastings b) := by
  induction a with
  | nil => simp [lastings]
  | cons v r ih => simp [lastings, ih, Bool.and_assoc]
theorem give_up {h h' : Heap} {v y : AV} (hg : give [] h' v = some y) (hl : lasting y = true) : give h h' v = some y := by
  unfold give at *
  cases h with
  | nil => exact hg
  | cons x r =>
    cases h' with
    | nil => simp at hg ⊢; subst hg; simp [hl]
    | cons x' r' =>
      simp only at hg ⊢
      cases ht : tree false (x' :: r') deep v with
      | none => rw [ht] at hg; cases hg
      | some z =>
        rw [ht] at hg
        simp only [Option.bind_some, Option.some.injEq] at hg ⊢
        subst hg
        rw [if_pos hl]
/-- A call that gives a value of its own. -/
def Gives (R : Rec) (K : FuncId) (args : List AV) (y : AV) : Prop := ∃ r h', R (.call K args []) = some (.call (.ret r) h') ∧ give [] h' r = some y ∧ lasting y = true
theorem Gives.pure {X : Type} {R : Rec} {m : Mm} {K : FuncId} {args : List AV} {y : AV} {kp k : AV → Option X} (h : Gives R K args y) (hp : pvs args = true) : xPureR R m K args kp k = k y := by
  obtain ⟨r, h', h1, h2, h3⟩ := h
  exact xPure_of (lend_pv hp) h1 (give_up h2 h3)
/-- .. and that lasts. -/
def LiL {α : Type} (size : Nat) (Q : List AV → α → Prop) (l : List α) (a : AV) : Prop := Li size Q l a ∧ lasting a = true
theorem Grown.li {α : Type} {size : Nat} {Q : List AV → α → Prop} {l : List α} {cs : List AV} {h : Heap} {x : AV} (g : Grown [] size l.length cs x h) (hp : pvs cs = true) (hL : lastings cs = true) (hr : l.length ≤ room)
    (hq : ∀ i a, l[i]? = some a → Q ((cs.drop (i * size)).take size) a) : ∃ y, give [] h x = some y ∧ Li size Q l y ∧ lasting y = true := by
  obtain ⟨y, h1, h2⟩ := give_own g hp
  refine ⟨y, h1, ?_⟩
  rcases h2 with ⟨rfl, h2, rfl⟩ | ⟨rfl, h2⟩
  · have : l = [] := List.length_eq_zero_iff.1 h2
    subst this
    exact ⟨Li.nils, rfl⟩
  · exact ⟨⟨cs, Sl.snap h2 hp hr, hq⟩, by simp [lasting, hL]⟩
theorem build_loop {α : Type} {R : Rec} {T : Nat → AV → Heap → Task} {l : List α} {size : Nat} {Q : List AV → α → Prop} {x0 : Ex} {E : AV → Env → Prop} (hs : 0 < size)
    (hend : ∀ x h, ∃ e lo, E x e ∧ R (T l.length x h) = some (.loop x0 ⟨e, ⟨lo, h, []⟩⟩))
    (hstep : ∀ i a x h cs, l[i]? = some a → Grown [] size i cs x h → ∃ new x' h', new.length = size ∧ Q new a ∧ pvs new = true ∧ lastings new = true ∧ Grown [] size (i + 1) (cs ++ new) x' h' ∧ ∀ r, R (T (i + 1) x' h') = some r → R (T i x h) = some r) :
    ∃ x h cs e lo, R (T 0 .nils []) = some (.loop x0 ⟨e, ⟨lo, h, []⟩⟩) ∧ E x e ∧ Grown [] size l.length cs x h ∧ pvs cs = true ∧ lastings cs = true ∧ ∀ i a, l[i]? = some a → Q ((cs.drop (i * size)).take size) a := by
  have key : ∀ n i x h cs, n = l.length - i → i ≤ l.length → Grown [] size i cs x h → pvs cs = true → lastings cs = true → cs.length = i * size → (∀ j a, j < i → l[j]? = some a → Q ((cs.drop (j * size)).take size) a) →
      ∃ x' h' cs' e lo, R (T i x h) = some (.loop x0 ⟨e, ⟨lo, h', []⟩⟩) ∧ E x' e ∧ Grown [] size l.length cs' x' h' ∧ pvs cs' = true ∧ lastings cs' = true ∧ ∀ j a, l[j]? = some a → Q ((cs'.drop (j * size)).take size) a := by
    intro n
    induction n with
    | zero =>
      intro i x h cs hn hi hg hp hL hlen hq
      have e : i = l.length := by omega
      subst e
      obtain ⟨e, lo, h1, h2⟩ := hend x h
      exact ⟨x, h, cs, e, lo, h2, h1, hg, hp, hL, fun j a hj => hq j a (List.getElem?_eq_some_iff.1 hj).1 hj⟩
    | succ n ih =>
      intro i x h cs hn hi hg hp hL hlen hq
      have hlt : i < l.length := by omega
      have g := List.getElem?_eq_getElem hlt
      obtain ⟨new, x', h', k1, k2, k3, k4, k5, k6⟩ := hstep i _ x h cs g hg
      obtain ⟨x2, h2, cs2, e, lo, q1, q2⟩ := ih (i + 1) x' h' (cs ++ new) (by omega) (by omega) k5 (by rw [pvs_append, hp, k3]; rfl) (by rw [lastings_append, hL, k4]; rfl) (by rw [List.length_append, hlen, k1, Nat.add_mul, Nat.one_mul])
        (fun j a hj hja => by
          rcases Nat.lt_or_ge j i with hji | hji
          · have hle : j * size + size ≤ i * size := by
              have := Nat.mul_le_mul_right size (Nat.succ_le_of_lt hji)
              rw [Nat.succ_mul] at this
              exact this
            rw [List.drop_append_of_le_length (by omega), List.take_append_of_le_length (by simp; omega)]
            exact hq j a hji hja
          · have : j = i := by omega
            subst this
            rw [g] at hja
            cases hja
            rw [List.drop_append, List.drop_eq_nil_of_le (by omega), hlen, Nat.sub_self, List.drop_zero, List.nil_append, ← k1, List.take_length]
            exact k2)
      exact ⟨x2, h2, cs2, e, lo, k6 _ q1, q2⟩
  exact key l.length 0 .nils [] [] (by omega) (Nat.zero_le _) Grown.nils rfl rfl (by simp) (fun j a h => by omega)
end Go.Ai
namespace Go.Ai
variable [Glob]
theorem Gives.lasts {R : Rec} {K : FuncId} {args : List AV} {y : AV} (h : Gives R K args y) : lasting y = true := by
  obtain ⟨_, _, _, _, h⟩ := h
  exact h
theorem srcCells_snap {m : Mm} {b : Bool} {size n : Nat} {cs : List AV} (h : cs.length = n * size) : srcCells m size (.snap b size n cs) = some cs := by
  show (if size = size ∧ n * size ≤ cs.length then some (cs.take (n * size)) else none) = _
  rw [if_pos ⟨rfl, by omega⟩, ← h, List.take_length]
end Go.Ai
namespace Go.Ai
variable [Glob]
/-- Is it this value? -/
def isRet (v : AV) : Option TR → Bool
  | some (.call (.ret u) _) => same u v
  | _ => false
theorem isRet_ok {v : AV} {x : Option TR} (h : isRet v x = true) : ∃ h', x = some (.call (.ret v) h') := by
  unfold isRet at h
  split at h
  · rename_i u h'
    exact ⟨h', by rw [same_eq u v h]⟩
  · cases h
theorem runN_ret {P : Program} {A : FuncId → FAnn} {n : Nat} {t : Task} {v : AV} (h : isRet v (runN P A n t) = true) : ∃ h', arun P A t = some (.call (.ret v) h') := by
  obtain ⟨h', e⟩ := isRet_ok h
  exact ⟨h', runN_arun n t _ e⟩
theorem tree_own' {h : Heap} {bw : Bool} {k id size n : Nat} {cs cs' : List AV} (hget : h[id]? = some cs) (hl : cs.length = n * size) (hp : mapOwns (tree bw h k) cs = some cs') : tree bw h (k + 1) (.own id 0 size n n (n * size)) = some (.snap bw size n cs') := by
  simp only [tree, mapOwn, hget, Option.bind_some]
  rw [if_pos ⟨hl, Nat.le_refl _, by omega⟩, List.drop_zero, List.take_of_length_le (by omega), hp]
  rfl
@[simp] theorem mapOwns_nil {g : AV → Option AV} : mapOwns g [] = some [] := (rfl)
@[simp] theorem mapOwns_cons {g : AV → Option AV} {v : AV} {r : List AV} : mapOwns g (v :: r) = (mapOwn g v).bind fun v' => (mapOwns g r).map (v' :: ·) := (rfl)
@[simp] theorem mapOwn_sc {g : AV → Option AV} {v : Value} : mapOwn g (.sc v) = some (.sc v) := (rfl)
@[simp] theorem mapOwn_nils {g : AV → Option AV} : mapOwn g .nils = some .nils := (rfl)
@[simp] theorem mapOwn_agg {g : AV → Option AV} {cs : List AV} : mapOwn g (.agg cs) = (mapOwns g cs).map .agg := (rfl)
@[simp] theorem mapOwn_tup {g : AV → Option AV} {cs : List AV} : mapOwn g (.tup cs) = (mapOwns g cs).map .tup := (rfl)
@[simp] theorem mapOwn_own {g : AV → Option AV} {a b c d e f : Nat} : mapOwn g (.own a b c d e f) = g (.own a b c d e f) := (rfl)
@[simp] theorem mapOwn_ptr {g : AV → Option AV} {a b c : Nat} : mapOwn g (.ptr a b c) = g (.ptr a b c) := (rfl)
theorem lend_cons {x : List AV} {r : Heap} {args : List AV} : lend (x :: r) args = mapOwns (tree true (x :: r) 20) args := rfl
end Go.Ai
