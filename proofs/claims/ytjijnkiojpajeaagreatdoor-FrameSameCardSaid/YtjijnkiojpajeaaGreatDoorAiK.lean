/- The abstract interpreter once more, in continuations: what it answers the interpreter answers. -/
import Derived.Test.YtjijnkiojpajeaaGreatDoorAiRec
set_option linter.unusedVariables false
set_option linter.unusedSimpArgs false
set_option linter.unusedSectionVars false
namespace Go.Ai
variable [Glob]
abbrev Rs := Option (Ex × Env × Mm)
def orK {X : Type} (k : SV → Mm → Option X) (kp : AV → Mm → Option X) : OR → Option X
  | .val v m => k v m
  | .pan v m => kp v m
def retV (v : SV) (m : Mm) : Option OR := some (.val v m)
def retP (v : AV) (m : Mm) : Option OR := some (.pan v m)
def retN (e : Env) (m : Mm) : Rs := some (.normal, e, m)
def pickS (t : Bool) : SV → SV → SV
  | .v a, .v b => .v (if t then a else b)
  | x, y => if t then x else y
def fnv : AV → Option (FuncId × List AV × List AV)
  | .fn f a c => some (f, a, c)
  | _ => none
def njunk : AV → Option AV
  | .junk => none
  | v => some v
def isIfc : AV → Option AV
  | .ifc t u => some (.ifc t u)
  | _ => none
def tupGet (v : AV) (i : Nat) : Option AV := match v with | .tup vs => vs[i]? | _ => none
def fieldV (g : Bool) (n off : Nat) (v : AV) : Option AV := match v with | .agg cs => rdCells g n cs off | _ => none
def idxStr (s : ByteArray) (i : Int) : Option AV := if 0 ≤ i then (s[i.toNat]?).map fun b => .sc (.int .u8 b.toNat) else none
def idxArr (n : Nat) (g : Bool) (sz : Nat) (v : AV) (i : Int) : Option AV := match v with | .agg cs => if 0 ≤ i ∧ i < n then rdCells g sz cs (i.toNat * sz) else none | _ => none
def bkT (P : Program) (t : TypeId) : Bool := match P.underlying t with | some .bool => true | _ => false
def xBin (P : Program) (isb : Bool) (xt : TypeId) (op : BinOp) (a b : AV) : Option AV :=
  match a with
  | .agg xs => (eqStruct P xt (.agg xs) b).bind (neg op)
  | .sc (.bool _) => if isb then aBin op a b else none
  | _ => aBin op a b
inductive CK where
  | int (k : IntKind) | istr | str | bytes | same | text | bad
def cvK (P : Program) (src dst : TypeId) : CK :=
  match P.underlying src, P.underlying dst with
  | some (.int _), some (.int k) => .int k
  | some (.int _), some .string => .istr
  | some .string, some .string => .str
  | some .string, some (.slice e) => (match P.underlying e, szT P e with | some (.int .u8), some 1 => .bytes | _, _ => .bad)
  | some (.slice _), some (.slice e) => (match src == dst, P.underlying e with | true, some (.int .u8) => .same | _, _ => .bad)
  | some (.slice e), some .string => (match P.underlying e with | some (.int .u8) => .text | _ => .bad)
  | _, _ => .bad
def xConv (c : CK) (fl : Option Flag) (m : Mm) (x : AV) : Option (AV × Mm) :=
  match c with
  | .int k => (intv x).map fun p => (.sc (.int k (k.wrap p.2)), m)
  | .istr => (intv x).map fun p => (.sc (.string (Utf8.encode p.2)), m)
  | .str => (strv x).map fun s => (.sc (.string s), m)
  | .bytes => (strv x).bind fun s => if room < s.size then none else some (if isOwn fl then (.own m.hp.length 0 1 s.size s.size s.size, { m with hp := m.hp ++ [strCells s] }) else (.snap false 1 s.size (strCells s), m))
  | .same => (match x with
    | .own id off size len acap ep => (m.hp[id]?).bind fun cs => if cs.length = ep ∧ ep ≠ 0 then some (.own id off size len acap ep, m) else none
    | _ => none)
  | .text => (aCells m 1 x).bind fun cs => (cellBytes cs).map fun bs => (.sc (.string ⟨bs.toArray⟩), m)
  | .bad => none
def xMake (n by_ : Nat) (zc : List AV) (fl : Option Flag) (m : Mm) (l c : AV) : Option (AV × Mm) :=
  (intv l).bind fun l => (intv c).bind fun c =>
    if 0 < n ∧ zc.length = n ∧ 0 ≤ l.2 ∧ l.2 ≤ c.2 ∧ c.2 ≤ room ∧ by_ * c.2 ≤ 2 * room ∧ isOwn fl = true then
      some (.own m.hp.length 0 n l.2.toNat c.2.toNat (c.2.toNat * n), { m with hp := m.hp ++ [repeatCells zc c.2.toNat] })
    else none
def xNext (m : Mm) : SV → Option (AV × Mm)
  | .l k 0 => (match aget m.loc k with
      | some (.iter s pos) =>
        if pos < s.size then some (.tup [mkBool true, mkInt pos, .sc (.int .i32 (Utf8.decode s pos).1)], { m with loc := aset m.loc k (.iter s (pos + (Utf8.decode s pos).2)) })
        else some (.tup [mkBool false], m)
      | _ => none)
  | _ => none
def xCopy (n : Nat) (m : Mm) (a b : AV) : Option (AV × Mm) :=
  if n = 0 then none else
  (srcCells m n b).bind fun src => match a with
    | .own id off sz len acap ep => (m.hp[id]?).bind fun cs =>
      if cs.length = ep ∧ sz = n ∧ len ≤ acap ∧ off + acap * n ≤ ep then
        some (mkInt (min (src.length / n) len : Nat), { m with hp := m.hp.set id (splice cs off (src.take (min (src.length / n) len * n))) })
      else none
    | _ => none
def xCall {X : Type} (rec : Rec) (m : Mm) (K : FuncId) (args : List AV) (k : AV → Mm → Option X) (kp : AV → Mm → Option X) : Option X :=
  (rec (.call K args m.hp)).bind fun
    | .call (.ret v) h => k v { m with hp := h }
    | .call (.pan v) h => kp v { m with hp := h }
    | _ => none
def xPure {X : Type} (rec : Rec) (m : Mm) (K : FuncId) (args : List AV) (k : AV → Option X) (kp : AV → Option X) : Option X :=
  (lend m.hp args).bind fun as => (rec (.call K as [])).bind fun
    | .call (.ret v) h => (give m.hp h v).bind k
    | .call (.pan v) h => (give m.hp h v).bind kp
    | _ => none
section
variable {X : Type}
def newK (fl : Option Flag) (m : Mm) (cs : List AV) (k : SV → Mm → Option X) : Option X :=
  match fl with
  | some (.site j) => k (.l j 0) { m with loc := aset m.loc j (.cells cs) }
  | _ => k (.v (.ptr m.hp.length 0 cs.length)) { m with hp := m.hp ++ [cs] }
def newSliceK (fl : Option Flag) (m : Mm) (size len : Nat) (cs : List AV) (k : SV → Mm → Option X) : Option X :=
  if isOwn fl then k (.v (.own m.hp.length 0 size len len cs.length)) { m with hp := m.hp ++ [cs] } else k (.v (.snap false size len cs)) m
def pls (pl : List (Nat × Nat)) (i : Nat) : Option (Nat × Nat) := pl[i]?
def plm (n : Nat) (i : Nat) : Option (Nat × Nat) := some (i * n, n)
def intK (ρ : Ro) (y : Option Operand) (k : Option Int → Option X) : Option X :=
  match y with
  | none => k none
  | some y => (opv ρ y).bind fun v => (intv v).bind fun p => k (some p.2)
def callK (ρ : Ro) (c : Call) (k : FuncId → List AV → Option X) : Option X :=
  match c.callee with
  | .value (.func g) => (opvs ρ c.args.toList).bind fun args => k g args
  | .value f => (opvs ρ c.args.toList).bind fun args => (opv ρ f).bind fun v => (fnv v).bind fun q => k q.1 (q.2.1 ++ args ++ q.2.2)
  | _ => none
/-- One operation. -/
def evalOpK (P : Program) (rec : Rec) (fl : Option Flag) (ρ : Ro) (m : Mm) (o : Oper) (k : SV → Mm → Option X) (kp : AV → Mm → Option X) : Option X :=
  match o.op with
  | .move x => (match fl with | some (.virt _) => (aMove fl m (ρ x)).bind (orK k kp) | _ => k (ρ x) m)
  | .assign x => (match fl with | some (.virt _) => (aMove fl m (ρ x)).bind (orK k kp) | _ => k (ρ x) m)
  | .pick c a b => (opv ρ c).bind fun v => (boolv v).bind fun t => k (pickS t (ρ a) (ρ b)) m
  | .alloc e => (zeroT P e).bind fun z => (cellsOf z).bind fun cs => newK fl m cs k
  | .box _ x => (opv ρ x).bind fun v => (cellsOf v).bind fun cs => newK fl m cs k
  | .build t parts =>
    (match P.underlying t, zeroT P t with
    | some (.struct fs), some (.agg z) => (placesOf P fs.toList).bind fun pl => (partsOf ρ parts.toList).bind fun ps => (fillCells (pls pl) z ps).bind fun cs => k (.v (.agg cs)) m
    | some (.array _ e), some (.agg z) => (szT P e).bind fun n => (partsOf ρ parts.toList).bind fun ps => (fillCells (plm n) z ps).bind fun cs => k (.v (.agg cs)) m
    | _, _ => none)
  | .buildSlice t len parts =>
    (elemT P t).bind fun e => (szT P e).bind fun n => (zeroT P e).bind fun z => (cellsOf z).bind fun zc =>
      if 0 < n ∧ zc.length = n ∧ len * n ≤ 2 ^ 24 then
        (partsOf ρ parts.toList).bind fun ps => (fillCells (plm n) (repeatCells zc len) ps).bind fun cs => newSliceK fl m n len cs k
      else none
  | .load t p => (isAggT P t).bind fun g => (szT P t).bind fun n => (aLoad g n m (ρ p)).bind fun a => k (.v a) m
  | .store t p x => (isAggT P t).bind fun g => (szT P t).bind fun n => (opv ρ x).bind fun v => (aStore g n m (ρ p) v).bind fun m' => k (.v (.tup [])) m'
  | .nilCheck x => (aNilCheck m (ρ x)).bind fun s => k s m
  | .binOp op xt x y _ =>
    if nilConst P xt y then (isNilv P xt m (ρ x)).bind fun b => (neg op b).bind fun a => k (.v a) m
    else (opv ρ x).bind fun a => (opv ρ y).bind fun b => (xBin P (bkT P xt) xt op a b).bind fun c => k (.v c) m
  | .unOp op _ x => (opv ρ x).bind fun a => (aUn op a).bind fun b => k (.v b) m
  | .convert src dst x => (opv ρ x).bind fun a => (xConv (cvK P src dst) fl m a).bind fun r => k (.v r.1) r.2
  | .makeInterface xt x => (match P.underlying xt with | some (.interface _) => none | some _ => (opv ρ x).bind fun v => (njunk v).bind fun v => k (.v (.ifc xt v)) m | none => none)
  | .makeFunc (.func f) first captured => (opvs ρ first.toList).bind fun a => (opvs ρ captured.toList).bind fun c => k (.v (.fn f a c)) m
  | .makeSlice t l c => (elemT P t).bind fun e => (szT P e).bind fun n => (bytesT P e).bind fun by_ => (zeroT P e).bind fun z => (cellsOf z).bind fun zc =>
      (opv ρ l).bind fun l => (opv ρ c).bind fun c => (xMake n by_ zc fl m l c).bind fun r => k (.v r.1) r.2
  | .slice t x lo hi mx => intK ρ lo fun l => intK ρ hi fun h => intK ρ mx fun u =>
    (match P.underlying t with
    | some .string => if u.isSome then none else (opv ρ x).bind fun v => (strv v).bind fun b => (aSliceStr l h b).bind fun a => k (.v a) m
    | some (.slice e) => (szT P e).bind fun n => (opv ρ x).bind fun v => (aSliceS m n l h u v).bind fun a => k (.v a) m
    | some (.pointer arr) => (match P.underlying arr with | some (.array n e) => (szT P e).bind fun sz => (aSliceA m n sz l h u (ρ x)).bind fun a => k (.v a) m | _ => none)
    | some (.array n e) => (szT P e).bind fun sz => (aSliceA m n sz l h u (ρ x)).bind fun a => k (.v a) m
    | _ => none)
  | .fieldAddr t x f => (fieldT P t f).bind fun p => (aField m p.2.1 (ρ x)).bind fun s => k s m
  | .field t x f => (opv ρ x).bind fun v => (fieldT P t f).bind fun p => (isAggT P p.1).bind fun g => (fieldV g p.2.2 p.2.1 v).bind fun a => k (.v a) m
  | .indexAddr t x i => (opv ρ i).bind fun iv => (intv iv).bind fun q =>
    (match P.underlying t with
    | some (.slice e) => (szT P e).bind fun n => (opv ρ x).bind fun v => (aIndexS m n q.2 v).bind fun s => k s m
    | some (.array n e) => (szT P e).bind fun sz => if sz = 0 then none else (aIndexA m n sz q.2 (ρ x)).bind fun s => k s m
    | _ => none)
  | .index t x i => (opv ρ x).bind fun a => (opv ρ i).bind fun b => (intv b).bind fun q =>
    (match P.underlying t with
    | some .string => (strv a).bind fun s => (idxStr s q.2).bind fun c => k (.v c) m
    | some (.array n e) => (szT P e).bind fun sz => (isAggT P e).bind fun g => (idxArr n g sz a q.2).bind fun c => k (.v c) m
    | _ => none)
  | .range t x => (match P.underlying t, fl with
    | some .string, some (.site j) => (opv ρ x).bind fun v => (strv v).bind fun s => k (.l j 0) { m with loc := aset m.loc j (.iter s 0) }
    | _, _ => none)
  | .next x true => (xNext m (ρ x)).bind fun r => k (.v r.1) r.2
  | .typeAssert x _ t ok => (opv ρ x).bind fun v => (aAssert P v t ok).bind fun a => k (.v a) m
  | .extract x i => (opv ρ x).bind fun v => (tupGet v i).bind fun a => k (.v a) m
  | .panic x => (opv ρ x).bind fun v => (isIfc v).bind fun v => kp v m
  | .call c =>
    (match c.callee with
    | .builtin .len => (match c.args.toList, c.argTypes.toList with
      | [x], [t] => (match P.underlying t with
        | some .string => (opv ρ x).bind fun v => (strv v).bind fun s => k (.v (mkInt s.size)) m
        | some (.slice _) => (opv ρ x).bind fun v => (aLenS m v).bind fun (n : Nat) => k (.v (mkInt n)) m
        | some (.array n _) => k (.v (mkInt n)) m
        | some (.pointer arr) => (match P.underlying arr with | some (.array n _) => k (.v (mkInt n)) m | _ => none)
        | _ => none)
      | _, _ => none)
    | .builtin .append => (match c.args.toList, c.argTypes.toList with
      | [x, y], [t, t'] => (match P.underlying t' with
        | some (.int _) => none
        | some _ => (elemT P t).bind fun e => (szT P e).bind fun n => (bytesT P e).bind fun by_ => (zeroT P e).bind fun z => (cellsOf z).bind fun zc => if zc.length = n then (opv ρ x).bind fun a => (opv ρ y).bind fun b => (aAppend m n by_ a b).bind fun r => k (.v r.1) r.2 else none
        | none => none)
      | _, _ => none)
    | .builtin .copy => (match c.args.toList, c.argTypes.toList with
      | [x, y], t :: _ => (elemT P t).bind fun e => (szT P e).bind fun n => (opv ρ x).bind fun a => (opv ρ y).bind fun b => (xCopy n m a b).bind fun r => k (.v r.1) r.2
      | _, _ => none)
    | .builtin .min => (match c.args.toList with | x :: r => (opv ρ x).bind fun a => (opvs ρ r).bind fun as => (aMins .min a as).bind fun v => k (.v v) m | _ => none)
    | .builtin .max => (match c.args.toList with | x :: r => (opv ρ x).bind fun a => (opvs ρ r).bind fun as => (aMins .max a as).bind fun v => k (.v v) m | _ => none)
    | .builtin b => (aBuiltin P ρ m b c).bind (orK k kp)
    | .value _ => callK ρ c fun g args => if isHeap fl then xCall rec m g args (fun v m' => k (.v v) m') kp else xPure rec m g args (fun v => k (.v v) m) (fun v => kp v m)
    | .invoke _ _ => none)
  | .defer c => (match c.callee with
    | .value f => (opvs ρ c.args.toList).bind fun args => (opv ρ f).bind fun v => (fnv v).bind fun q => k (.v (.tup [])) { m with dfs := .fn q.1 (q.2.1 ++ args) q.2.2 :: m.dfs }
    | _ => none)
  | _ => none
end
section
variable {X : Type} {P : Program} {rec : Rec} {fl : Option Flag} {ρ : Ro} {m : Mm} {o : Oper} {k : SV → Mm → Option X} {kp : AV → Mm → Option X} {r : X}
theorem newK_ok {cs : List AV} (h : newK fl m cs k = some r) : orK k kp (newBox fl m cs) = some r := by
  unfold newK at h
  unfold newBox
  split at h
  · exact h
  · rename_i hne
    split
    · rename_i j
      exact absurd rfl (hne j)
    · exact h
theorem newSliceK_ok {size len : Nat} {cs : List AV} (h : newSliceK fl m size len cs k = some r) : orK k kp (newSlice fl m size len cs) = some r := by
  unfold newSliceK at h
  unfold newSlice
  split at h
  · rename_i e; rw [if_pos e]; exact h
  · rename_i e; rw [if_neg e]; exact h
theorem opv_v {x : Operand} {v : AV} (h : opv ρ x = some v) : ρ x = .v v := by
  unfold opv at h
  cases hx : ρ x with
  | v a => rw [hx] at h; cases h; rfl
  | l j o => rw [hx] at h; cases h
def optv (ρ : Ro) (y : Option Operand) : Option (Option Int) := match y with | none => some none | some y => (opv ρ y).bind fun v => (intv v).bind fun p => some (some p.2)
theorem optv_eq (y : Option Operand) : (match y with | none => some none | some y => (opv ρ y).bind fun v => (intv v).map fun p => some p.2) = optv ρ y := by
  cases y with
  | none => rfl
  | some y =>
    simp only [optv]
    cases opv ρ y with
    | none => rfl
    | some v => cases h : intv v <;> simp [h]
theorem aSlice_eq (t : TypeId) (x : Operand) (lo hi mx : Option Operand) : aSlice P ρ m t x lo hi mx = (optv ρ lo).bind fun l => (optv ρ hi).bind fun h => (optv ρ mx).bind fun k =>
    match P.underlying t with
    | some .string => if k.isSome then none else (opv ρ x).bind fun v => (strv v).bind fun b => aSliceStr l h b
    | some (.slice e) => (szT P e).bind fun n => (opv ρ x).bind fun v => aSliceS m n l h k v
    | some (.pointer arr) => (match P.underlying arr with | some (.array n e) => (szT P e).bind fun sz => aSliceA m n sz l h k (ρ x) | _ => none)
    | some (.array n e) => (szT P e).bind fun sz => aSliceA m n sz l h k (ρ x)
    | _ => none := by
  simp only [← optv_eq]
  rfl
theorem intK_ok {y : Option Operand} {f : Option Int → Option X} (h : intK ρ y f = some r) : ∃ v, optv ρ y = some v ∧ f v = some r := by
  unfold intK at h
  cases y with
  | none => exact ⟨none, rfl, h⟩
  | some y =>
    simp only [Option.bind_eq_some_iff] at h
    obtain ⟨v, h1, p, h2, h3⟩ := h
    exact ⟨some p.2, by simp [optv, h1, h2], h3⟩
theorem callK_ok {c : Call} {f : FuncId → List AV → Option X} (h : callK ρ c f = some r) (hg : ∀ g, c.callee = .value (.func g) → ρ (.func g) = .v (.fn g [] [])) : ∃ p, callOf ρ c = some p ∧ f p.1 p.2 = some r ∧ ∃ x, c.callee = .value x := by
  unfold callK at h
  unfold callOf
  split at h
  · rename_i g hc
    simp only [Option.bind_eq_some_iff] at h
    obtain ⟨args, h1, h2⟩ := h
    refine ⟨(g, args), ?_, h2, _, hc⟩
    simp only [hc, h1, Option.bind_some, hg g hc, List.nil_append, List.append_nil]
  · rename_i x hne hc
    simp only [Option.bind_eq_some_iff] at h
    obtain ⟨args, h1, v, h2, q, h3, h4⟩ := h
    refine ⟨(q.1, q.2.1 ++ args ++ q.2.2), ?_, h4, _, hc⟩
    have hv := opv_v h2
    unfold fnv at h3
    split at h3
    · cases h3
      simp only [hc, h1, Option.bind_some, hv]
    · cases h3
  · cases h
theorem pickS_eq (t : Bool) (x y : SV) : pickS t x y = if t then x else y := by
  cases x <;> cases y <;> cases t <;> rfl
theorem xBin_eq (xt : TypeId) (op : BinOp) (a b : AV) : (match a with
    | .agg xs => (eqStruct P xt (.agg xs) b).bind (neg op)
    | .sc (.bool _) => (match P.underlying xt with | some .bool => aBin op a b | _ => none)
    | _ => aBin op a b) = xBin P (bkT P xt) xt op a b := by
  unfold xBin bkT
  cases a <;> try rfl
  rename_i v
  cases v <;> try rfl
  cases hu : P.underlying xt with
  | none => rfl
  | some d => cases d <;> rfl
theorem xConv_ok {src dst : TypeId} {x : AV} {q : AV × Mm} (h : xConv (cvK P src dst) fl m x = some q) : aConvert P fl m src dst x = some (.val (.v q.1) q.2) := by
  unfold cvK at h
  unfold aConvert
  split at h
  · rename_i h1 h2
    simp only [xConv, Option.map_eq_some_iff] at h
    obtain ⟨p, h3, rfl⟩ := h
    rw [intv_eq h3]
    simp only [h1, h2]
  · rename_i h1 h2
    simp only [xConv, Option.map_eq_some_iff] at h
    obtain ⟨p, h3, rfl⟩ := h
    rw [intv_eq h3]
    simp only [h1, h2]
  · rename_i h1 h2
    simp only [xConv, Option.map_eq_some_iff] at h
    obtain ⟨p, h3, rfl⟩ := h
    rw [strv_eq h3]
    simp only [h1, h2]
  · rename_i e h1 h2
    split at h
    · rename_i h3 h4
      simp only [xConv, Option.bind_eq_some_iff] at h
      obtain ⟨s, h5, h⟩ := h
      rw [strv_eq h5]
      simp only [h1, h2, h3, h4]
      split at h
      · cases h
      · rename_i h5
        rw [if_neg h5]
        cases h
        split <;> rfl
    · simp [xConv] at h
  · rename_i t e h1 h2
    split at h
    · rename_i h3 h4
      simp only [xConv] at h
      split at h
      · simp only [Option.bind_eq_some_iff] at h
        obtain ⟨cs, h5, h6⟩ := h
        split at h6
        · rename_i h7
          cases h6
          simp only [h1, h2, h3, h4, h5, if_pos h7]
        · cases h6
      · cases h
    · simp [xConv] at h
  · rename_i e h1 h2
    split at h
    · rename_i h3
      simp only [xConv, Option.bind_eq_some_iff, Option.map_eq_some_iff] at h
      obtain ⟨cs, h4, bs, h5, rfl⟩ := h
      simp only [h1, h2, h3, h4, h5, Option.bind_some, Option.map_some]
    · simp [xConv] at h
  · simp [xConv] at h
theorem evOk {E : Option OR} {v : SV} {m' : Mm} (h : k v m' = some r) (he : E = some (.val v m')) : ∃ x, E = some x ∧ orK k kp x = some r := ⟨_, he, h⟩
theorem evPan {E : Option OR} {v : AV} {m' : Mm} (h : kp v m' = some r) (he : E = some (.pan v m')) : ∃ x, E = some x ∧ orK k kp x = some r := ⟨_, he, h⟩
theorem evalOpK_ok (hg : ∀ g, ρ (.func g) = .v (.fn g [] [])) (h : evalOpK P rec fl ρ m o k kp = some r) : ∃ x, evalOp P rec fl ρ m o = some x ∧ orK k kp x = some r := by
  unfold evalOpK at h
  unfold evalOp
  cases ho : o.op with
  | move x =>
    simp only [ho] at h ⊢
    split at h
    · simpa only [Option.bind_eq_some_iff] using h
    · rename_i hne
      refine ⟨.val (ρ x) m, ?_, h⟩
      cases fl with
      | none => rfl
      | some f => cases f with
        | virt n => exact absurd rfl (hne n)
        | _ => rfl
  | assign x =>
    simp only [ho] at h ⊢
    split at h
    · simpa only [Option.bind_eq_some_iff] using h
    · rename_i hne
      refine ⟨.val (ρ x) m, ?_, h⟩
      cases fl with
      | none => rfl
      | some f => cases f with
        | virt n => exact absurd rfl (hne n)
        | _ => rfl
  | pick c a b =>
    simp only [ho, Option.bind_eq_some_iff] at h
    obtain ⟨v, h1, t, h2, h3⟩ := h
    refine evOk (v := if t then ρ a else ρ b) (m' := m) ?_ (by simp only [h1, h2, Option.bind_some, Option.map_some])
    rw [← h3, pickS_eq]
  | alloc e =>
    simp only [ho, Option.bind_eq_some_iff] at h
    obtain ⟨z, h1, cs, h2, h3⟩ := h
    exact ⟨_, by simp only [h1, h2, Option.bind_some, Option.map_some], newK_ok h3⟩
  | box t x =>
    simp only [ho, Option.bind_eq_some_iff] at h
    obtain ⟨z, h1, cs, h2, h3⟩ := h
    exact ⟨_, by simp only [h1, h2, Option.bind_some, Option.map_some], newK_ok h3⟩
  | build t parts =>
    simp only [ho] at h
    simp only [ret1, aBuild]
    split at h
    · rename_i fs z hu hz
      simp only [Option.bind_eq_some_iff] at h
      obtain ⟨pl, h1, ps, h2, cs, h3, h4⟩ := h
      have h3 : fillCells (fun i => pl[i]?) z ps = some cs := h3
      exact evOk h4 (by simp only [hu, hz, h1, h2, h3, Option.bind_some, Option.map_some])
    · rename_i n e z hu hz
      simp only [Option.bind_eq_some_iff] at h
      obtain ⟨pl, h1, ps, h2, cs, h3, h4⟩ := h
      have h3 : fillCells (fun i => some (i * pl, pl)) z ps = some cs := h3
      exact evOk h4 (by simp only [hu, hz, h1, h2, h3, Option.bind_some, Option.map_some])
    · cases h
  | buildSlice t len parts =>
    simp only [ho, Option.bind_eq_some_iff] at h
    simp only [aBuildSlice]
    obtain ⟨e, h1, n, h2, z, h3, zc, h4, h5⟩ := h
    split at h5
    · rename_i hc
      simp only [Option.bind_eq_some_iff] at h5
      obtain ⟨ps, h6, cs, h7, h8⟩ := h5
      have h7 : fillCells (fun i => some (i * n, n)) (repeatCells zc len) ps = some cs := h7
      exact ⟨_, by simp only [h1, h2, h3, h4, if_pos hc, h6, h7, Option.bind_some, Option.map_some], newSliceK_ok h8⟩
    · cases h5
  | load t p =>
    simp only [ho, Option.bind_eq_some_iff] at h
    obtain ⟨g, h1, n, h2, a, h3, h4⟩ := h
    exact evOk h4 (by simp only [ret1, h1, h2, h3, Option.bind_some, Option.map_some])
  | store t p x =>
    simp only [ho, Option.bind_eq_some_iff] at h
    obtain ⟨g, h1, n, h2, a, h3, m', h4, h5⟩ := h
    exact evOk h5 (by simp only [skip1, h1, h2, h3, h4, Option.bind_some, Option.map_some])
  | nilCheck x =>
    simp only [ho, Option.bind_eq_some_iff] at h
    obtain ⟨s, h1, h2⟩ := h
    exact evOk h2 (by simp only [retS, h1, Option.map_some])
  | binOp op xt x y yt =>
    simp only [ho] at h
    simp only [ret1, aBinOp]
    split at h
    · rename_i hn
      simp only [Option.bind_eq_some_iff] at h
      obtain ⟨b, h1, a, h2, h3⟩ := h
      exact evOk h3 (by simp only [if_pos hn, h1, h2, Option.bind_some, Option.map_some])
    · rename_i hn
      simp only [Option.bind_eq_some_iff] at h
      obtain ⟨a, h1, b, h2, c, h3, h4⟩ := h
      refine ⟨.val (.v c) m, ?_, h4⟩
      simp only [if_neg hn, h1, h2, Option.bind_some, Option.map_eq_some_iff]
      exact ⟨c, (xBin_eq xt op a b).trans h3, rfl⟩
  | unOp op t x =>
    simp only [ho, Option.bind_eq_some_iff] at h
    obtain ⟨a, h1, b, h2, h3⟩ := h
    exact evOk h3 (by simp only [ret1, h1, h2, Option.bind_some, Option.map_some])
  | convert src dst x =>
    simp only [ho, Option.bind_eq_some_iff] at h
    obtain ⟨a, h1, q, h2, h3⟩ := h
    exact evOk h3 (by simp only [h1, xConv_ok h2, Option.bind_some])
  | makeInterface xt x =>
    simp only [ho] at h
    split at h
    · cases h
    · rename_i ty hne hu
      simp only [Option.bind_eq_some_iff] at h
      obtain ⟨a, h1, v, h2, h3⟩ := h
      refine ⟨.val (.v (.ifc xt v)) m, ?_, h3⟩
      cases ty <;> first | exact absurd rfl (hne _) | (simp only [hu, ret1, h1, Option.bind_some]; cases a <;> first | (cases h2; rfl) | cases h2)
    · cases h
  | makeFunc f first captured =>
    cases f <;> simp only [ho] at h <;> try cases h
    simp only [Option.bind_eq_some_iff] at h
    obtain ⟨a, h1, c, h2, h3⟩ := h
    exact evOk h3 (by simp only [ret1, h1, h2, Option.bind_some, Option.map_some])
  | makeSlice t l c =>
    simp only [ho, Option.bind_eq_some_iff] at h
    obtain ⟨e, h1, n, h2, by_, h3, z, h4, zc, h5, l', h6, c', h7, q, h8, h9⟩ := h
    simp only [xMake, Option.bind_eq_some_iff] at h8
    obtain ⟨li, h10, ci, h11, h12⟩ := h8
    split at h12
    · rename_i hc
      cases h12
      refine evOk h9 ?_
      simp only [aMakeSlice, h1, h2, h3, h4, h5, h6, h7, h10, h11, Option.bind_some]
      rw [if_pos ⟨hc.1, hc.2.1, hc.2.2.1, hc.2.2.2.1, hc.2.2.2.2.1, hc.2.2.2.2.2.1⟩, if_pos hc.2.2.2.2.2.2]
    · cases h12
  | slice t x lo hi mx =>
    simp only [ho] at h
    obtain ⟨l, h1, h⟩ := intK_ok h
    obtain ⟨u, h2, h⟩ := intK_ok h
    obtain ⟨v, h3, h⟩ := intK_ok h
    simp only [ret1, aSlice_eq, h1, h2, h3, Option.bind_some]
    split at h
    · rename_i hu
      split at h
      · cases h
      · rename_i hs
        simp only [Option.bind_eq_some_iff] at h
        obtain ⟨a, h4, b, h5, c, h6, h7⟩ := h
        refine evOk h7 ?_
        simp only [Option.bind_some, hu, if_neg hs, h4, h5, h6, Option.map_some]
    · rename_i e hu
      simp only [Option.bind_eq_some_iff] at h
      obtain ⟨n, h4, a, h5, c, h6, h7⟩ := h
      refine evOk h7 ?_
      simp only [Option.bind_some, hu, h4, h5, h6, Option.map_some]
    · rename_i arr hu
      split at h
      · rename_i n e hu2
        simp only [Option.bind_eq_some_iff] at h
        obtain ⟨sz, h4, c, h6, h7⟩ := h
        refine evOk h7 ?_
        simp only [Option.bind_some, hu, hu2, h4, h6, Option.map_some]
      · cases h
    · rename_i n e hu
      simp only [Option.bind_eq_some_iff] at h
      obtain ⟨sz, h4, c, h6, h7⟩ := h
      refine evOk h7 ?_
      simp only [Option.bind_some, hu, h4, h6, Option.map_some]
    · cases h
  | fieldAddr t x f =>
    simp only [ho, Option.bind_eq_some_iff] at h
    obtain ⟨p, h1, s, h2, h3⟩ := h
    exact evOk h3 (by simp only [retS, h1, h2, Option.bind_some, Option.map_some])
  | field t x f =>
    simp only [ho, Option.bind_eq_some_iff] at h
    obtain ⟨v, h1, p, h2, g, h3, a, h4, h5⟩ := h
    refine ⟨.val (.v a) m, ?_, h5⟩
    unfold fieldV at h4
    split at h4
    · simp only [ret1, aFieldV, h1, h2, h3, h4, Option.bind_some, Option.map_some]
    · cases h4
  | indexAddr t x i =>
    simp only [ho, Option.bind_eq_some_iff] at h
    obtain ⟨iv, h1, q, h2, h⟩ := h
    simp only [retS, aIndexAddr, h1, h2, Option.bind_some]
    split at h
    · rename_i e hu
      simp only [Option.bind_eq_some_iff] at h
      obtain ⟨n, h3, v, h4, s, h5, h6⟩ := h
      exact evOk h6 (by simp only [hu, h3, h4, h5, Option.bind_some, Option.map_some])
    · rename_i n e hu
      simp only [Option.bind_eq_some_iff] at h
      obtain ⟨sz, h3, h4⟩ := h
      split at h4
      · cases h4
      · rename_i hz
        simp only [Option.bind_eq_some_iff] at h4
        obtain ⟨s, h5, h6⟩ := h4
        exact evOk h6 (by simp only [hu, h3, if_neg hz, h5, Option.bind_some, Option.map_some])
    · cases h
  | index t x i =>
    simp only [ho, Option.bind_eq_some_iff] at h
    obtain ⟨a, h1, b, h2, q, h3, h⟩ := h
    simp only [ret1, aIndex, h1, h2, h3, Option.bind_some]
    split at h
    · rename_i hu
      simp only [Option.bind_eq_some_iff] at h
      obtain ⟨s, h4, c, h5, h6⟩ := h
      refine ⟨.val (.v c) m, ?_, h6⟩
      have : a = .sc (.string s) := by
        unfold strv at h4
        split at h4
        · cases h4; rfl
        · cases h4
      subst this
      unfold idxStr at h5
      simp only [hu, h5, Option.map_some]
    · rename_i n e hu
      simp only [Option.bind_eq_some_iff] at h
      obtain ⟨sz, h4, g, h5, c, h6, h7⟩ := h
      refine ⟨.val (.v c) m, ?_, h7⟩
      unfold idxArr at h6
      split at h6
      · simp only [hu, h4, h5, h6, Option.bind_some, Option.map_some]
      · cases h6
    · cases h
  | range t x =>
    simp only [ho] at h
    split at h
    · rename_i j hu
      simp only [Option.bind_eq_some_iff] at h
      obtain ⟨v, h1, s, h2, h3⟩ := h
      exact evOk h3 (by simp only [hu, h1, h2, Option.bind_some, Option.map_some])
    · cases h
  | next x s =>
    cases s <;> simp only [ho] at h <;> try cases h
    simp only [Option.bind_eq_some_iff] at h
    obtain ⟨q, h1, h2⟩ := h
    refine ⟨.val (.v q.1) q.2, ?_, h2⟩
    unfold xNext at h1
    simp only
    split at h1
    · rename_i j hx
      simp only [hx]
      split at h1
      · rename_i s pos hl
        simp only [hl]
        split at h1
        · rename_i hc
          cases h1
          rw [if_pos hc]
        · rename_i hc
          cases h1
          rw [if_neg hc]
      · cases h1
    · cases h1
  | typeAssert x a t ok =>
    simp only [ho, Option.bind_eq_some_iff] at h
    obtain ⟨a, h1, b, h2, h3⟩ := h
    exact evOk h3 (by simp only [ret1, h1, h2, Option.bind_some, Option.map_some])
  | extract x i =>
    simp only [ho, Option.bind_eq_some_iff] at h
    obtain ⟨a, h1, b, h2, h3⟩ := h
    refine ⟨.val (.v b) m, ?_, h3⟩
    unfold tupGet at h2
    simp only [ret1, h1, Option.bind_some]
    split at h2
    · simp only [h2, Option.map_some]
    · cases h2
  | panic x =>
    simp only [ho, Option.bind_eq_some_iff] at h
    obtain ⟨a, h1, b, h2, h3⟩ := h
    unfold isIfc at h2
    split at h2
    · cases h2
      exact evPan h3 (by simp only [h1, Option.bind_some])
    · cases h2
  | call c =>
    simp only [ho] at h
    simp only
    split at h
    · rename_i hc
      simp only [hc, aBuiltin]
      split at h
      · rename_i x t hx ht
        split at h
        · rename_i hu
          simp only [Option.bind_eq_some_iff] at h
          obtain ⟨a, h1, b, h2, h3⟩ := h
          exact evOk h3 (by simp only [hx, ht, hu, ret1, h1, h2, Option.bind_some, Option.map_some])
        · rename_i e hu
          simp only [Option.bind_eq_some_iff] at h
          obtain ⟨a, h1, b, h2, h3⟩ := h
          exact evOk h3 (by simp only [hx, ht, hu, ret1, h1, h2, Option.bind_some, Option.map_some])
        · rename_i n e hu
          exact evOk h (by simp only [hx, ht, hu, ret1, Option.map_some])
        · rename_i arr hu
          split at h
          · rename_i n e hu2
            exact evOk h (by simp only [hx, ht, hu, hu2, ret1, Option.map_some])
          · cases h
        · cases h
      · cases h
    · rename_i hc
      simp only [hc, aBuiltin]
      split at h
      · rename_i x y t t' hx ht
        split at h
        · cases h
        · rename_i ty hne hu
          simp only [Option.bind_eq_some_iff] at h
          obtain ⟨e, h1, n, h2, by_, h3, z, h4, zc, h5, h⟩ := h
          split at h
          · rename_i hz
            simp only [Option.bind_eq_some_iff] at h
            obtain ⟨a, h6, b, h7, q, h8, h9⟩ := h
            refine evOk h9 ?_
            cases ty <;> first | exact absurd rfl (hne _) | simp only [hx, ht, hu, h1, h2, h3, h4, h5, if_pos hz, h6, h7, h8, Option.bind_some, Option.map_some]
          · cases h
        · cases h
      · cases h
    · rename_i hc
      simp only [hc, aBuiltin]
      split at h
      · rename_i x y t ts hx ht
        simp only [Option.bind_eq_some_iff] at h
        obtain ⟨e, h1, n, h2, a, h3, b, h4, q, h5, h6⟩ := h
        refine ⟨.val (.v q.1) q.2, ?_, h6⟩
        unfold xCopy at h5
        simp only [hx, ht, h1, h2, h3, h4, Option.bind_some]
        split at h5
        · cases h5
        · rename_i hz
          rw [if_neg hz]
          simp only [Option.bind_eq_some_iff] at h5 ⊢
          obtain ⟨src, h7, h8⟩ := h5
          refine ⟨src, h7, ?_⟩
          split at h8
          · simp only [Option.bind_eq_some_iff] at h8 ⊢
            obtain ⟨cs, h9, h10⟩ := h8
            refine ⟨cs, h9, ?_⟩
            split at h10
            · rename_i hcc
              cases h10
              rw [if_pos hcc]
            · cases h10
          · cases h8
      · cases h
    · rename_i hc
      simp only [hc, aBuiltin]
      split at h
      · rename_i x rr hx
        simp only [Option.bind_eq_some_iff] at h
        obtain ⟨a, h1, b, h2, v, h3, h4⟩ := h
        exact evOk h4 (by simp only [hx, ret1, h1, h2, h3, Option.bind_some, Option.map_some])
      · cases h
    · rename_i hc
      simp only [hc, aBuiltin]
      split at h
      · rename_i x rr hx
        simp only [Option.bind_eq_some_iff] at h
        obtain ⟨a, h1, b, h2, v, h3, h4⟩ := h
        exact evOk h4 (by simp only [hx, ret1, h1, h2, h3, Option.bind_some, Option.map_some])
      · cases h
    · rename_i b _ _ _ _ _ hc
      simp only [hc]
      simpa only [Option.bind_eq_some_iff] using h
    · rename_i f hc
      simp only [hc]
      obtain ⟨q, h1, h2, _⟩ := callK_ok h fun g _ => hg g
      simp only [h1, Option.bind_some, doCall]
      split at h2
      · rename_i hh
        rw [if_pos hh]
        simp only [xCall, Option.bind_eq_some_iff] at h2 ⊢
        obtain ⟨t, h3, h4⟩ := h2
        split at h4
        · exact ⟨_, ⟨_, h3, rfl⟩, h4⟩
        · exact ⟨_, ⟨_, h3, rfl⟩, h4⟩
        · cases h4
      · rename_i hh
        rw [if_neg hh]
        simp only [xPure, Option.bind_eq_some_iff] at h2 ⊢
        obtain ⟨as, h0, t, h3, h4⟩ := h2
        split at h4
        · simp only [Option.bind_eq_some_iff] at h4
          obtain ⟨v, h5, h6⟩ := h4
          exact ⟨.val (.v v) m, ⟨as, h0, _, h3, by simp only [h5, Option.map_some]⟩, h6⟩
        · simp only [Option.bind_eq_some_iff] at h4
          obtain ⟨v, h5, h6⟩ := h4
          exact ⟨.pan v m, ⟨as, h0, _, h3, by simp only [h5, Option.map_some]⟩, h6⟩
        · cases h4
    · cases h
  | defer c =>
    simp only [ho] at h
    simp only
    split at h
    · rename_i f hc
      simp only [Option.bind_eq_some_iff] at h
      obtain ⟨args, h1, v, h2, q, h3, h4⟩ := h
      have hv := opv_v h2
      unfold fnv at h3
      split at h3
      · rename_i g a cc
        cases h3
        refine ⟨.val (.v (.tup [])) { m with dfs := .fn g (a ++ args) cc :: m.dfs }, ?_, h4⟩
        simp only [callOf, hc, h1, hv, Option.bind_some]
      · cases h3
    · cases h
  | _ => simp only [ho] at h; cases h
end
end Go.Ai
/- The abstract interpreter in continuations: regions, code, functions. -/
set_option linter.unusedVariables false
set_option linter.unusedSimpArgs false
set_option linter.unusedSectionVars false
namespace Go.Ai
variable [Glob]
def wantS (s : SV) (want : Bool) : Option Bool :=
  match s with
  | .v (.sc (.bool b)) => some (b == want)
  | .v (.tup _) => some false
  | _ => none
def awantK (ops : Array Oper) (e : Env) (o : Oper) : Option Bool :=
  match o.guard with
  | none => some true
  | some (j, want) => match (ops[j]?).bind (·.dst) with
    | none => some false
    | some d => wantS (eget e d) want
def contP {X : Type} (k : Env → Mm → Option X) (kp : AV → Env → Mm → Option X) : Ex × Env × Mm → Option X
  | (.normal, e, m) => k e m
  | (.pan v, e, m) => kp v e m
  | _ => none
def contN (k : Env → Mm → Rs) : Ex × Env × Mm → Rs
  | (.normal, e, m) => k e m
  | r => some r
def xJoin (r : Rs) (k : Env → Mm → Rs) : Rs := r.bind (contN k)
def contB (id : Nat) (k : Env → Mm → Rs) : Ex × Env × Mm → Rs
  | (.normal, e, m) => k e m
  | (.exit id', e, m) => if id' = id then k e m else some (.exit id', e, m)
  | r => some r
def xBlock (id : Nat) (r : Rs) (k : Env → Mm → Rs) : Rs := r.bind (contB id k)
def xLoop (rec : Rec) (t : Task) (k : Env → Mm → Rs) : Rs := (rec t).bind fun | .loop x s => contN k (x, s.env, s.mm) | _ => none
def xGuard {X : Type} (t : Bool) (r : Option OR) (m : Mm) (k : SV → Mm → Option X) (kp : AV → Mm → Option X) : Option X := (if t then r else some (.val (.v (.tup [])) m)).bind (orK k kp)
def xGuardQ {X : Type} (t : Bool) (r : Option SV) (k : SV → Option X) : Option X := (if t then r else some (.v (.tup []))).bind k
section
variable {X : Type}
def evalOpsK (P : Program) (rec : Rec) (fls : List (Nat × Flag)) (ops : Array Oper) (k : Env → Mm → Option X) (kp : AV → Env → Mm → Option X) : List (Oper × Nat) → Env → Mm → Option X
  | [], e, m => k e m
  | (o, i) :: r, e, m =>
    match o.guard with
    | none => evalOpK P rec (aget fls i) (opd e) m o (fun v m' => evalOpsK P rec fls ops k kp r (eput (dropFor (aget fls i) e) o.dst v) m') (fun v m' => kp v e m')
    | some _ => if isSiteF (aget fls i) then none else
      (awantK ops e o).bind fun t => xGuard t (evalOpK P rec (aget fls i) (opd e) m o retV retP) m (fun v m' => evalOpsK P rec fls ops k kp r (eput e o.dst v) m') (fun v m' => kp v e m')
noncomputable def opQ (P : Program) (rec : Rec) (fls : List (Nat × Flag)) (made : Made) (ρ : Ro) (m : Mm) (o : Oper) (i : Nat) (k : SV → Option X) : Option X :=
  match aget made i with
  | some (p, cs) => (stands m p cs).bind k
  | none => evalOpK P rec (aget fls i) ρ m o (fun v _ => k v) (fun _ _ => none)
def loudM (fls : List (Nat × Flag)) (made : Made) (o : Oper) (i : Nat) : Bool := loud (aget fls i) o && (aget made i).isNone
/-- In the text's order; each operation that changes memory waits for all before it, and all behind it wait for it. -/
noncomputable def evalSeqK (P : Program) (rec : Rec) (fls : List (Nat × Flag)) (made : Made) (ops : Array Oper) (k : Env → Mm → Option X) : List (Oper × Nat) → Env → Mm → Option X
  | [], e, m => k e m
  | (o, i) :: r, e, m =>
    match o.guard with
    | none =>
      if loudM fls made o i then evalOpK P rec (aget fls i) (opd e) m o (fun v m' => evalSeqK P rec fls made ops k r (eput e o.dst v) m') (fun _ _ => none)
      else opQ P rec fls made (opd e) m o i fun v => evalSeqK P rec fls made ops k r (eput e o.dst v) m
    | some _ => (awantK ops e o).bind fun t =>
      if loudM fls made o i then xGuard t (evalOpK P rec (aget fls i) (opd e) m o retV (fun _ _ => none)) m (fun v m' => evalSeqK P rec fls made ops k r (eput e o.dst v) m') (fun _ _ => none)
      else xGuardQ t (opQ P rec fls made (opd e) m o i some) fun v => evalSeqK P rec fls made ops k r (eput e o.dst v) m
def ordAll (fls : List (Nat × Flag)) (made : Made) (b : Array Nat) : List (Oper × Nat) → Bool
  | [] => true
  | (o, i) :: r => (r.all fun q => (loudM fls made o i == loudM fls made q.1 q.2) || behind b q.2 i) && ordAll fls made b r
noncomputable def backK {β : Type} (P : Program) (rec : Rec) (fls : List (Nat × Flag)) (made : Made) (b : Array Nat) (q : QRec) : List (Nat × Mm) → Option β → Option β
  | [], r => r
  | (j, m) :: h, r => if behind b q.i j then backK P rec fls made b q h r else agree (opQ P rec fls made (opd q.e) m q.o q.i some) q.v (backK P rec fls made b q h r)
noncomputable def aheadK {β : Type} (P : Program) (rec : Rec) (fls : List (Nat × Flag)) (made : Made) (b : Array Nat) (j : Nat) (m : Mm) : List QRec → Option β → Option β
  | [], r => r
  | q :: h, r => if behind b j q.i then aheadK P rec fls made b j m h r else agree (opQ P rec fls made (opd q.e) m q.o q.i some) q.v (aheadK P rec fls made b j m h r)
/-- In the text's order; each operation that changes nothing gives the same ahead of those that change memory and need not wait, and behind them. -/
noncomputable def evalAgK (P : Program) (rec : Rec) (fls : List (Nat × Flag)) (made : Made) (b : Array Nat) (k : Env → Mm → Option X) : List (Oper × Nat) → Env → Mm → List (Nat × Mm) → List QRec → Option X
  | [], e, m, _, _ => k e m
  | (o, i) :: r, e, m, hist, qs =>
    if loudM fls made o i then evalOpK P rec (aget fls i) (opd e) m o (fun v m' => aheadK P rec fls made b i m' qs (evalAgK P rec fls made b k r (eput e o.dst v) m' ((i, m) :: hist) qs)) (fun _ _ => none)
    else opQ P rec fls made (opd e) m o i fun v => backK P rec fls made b ⟨o, i, e, v⟩ hist (evalAgK P rec fls made b k r (eput e o.dst v) m hist (⟨o, i, e, v⟩ :: qs))
def bare (l : List (Oper × Nat)) : Bool := l.all fun q => q.1.guard.isNone
noncomputable def evalDrawK (P : Program) (rec : Rec) (fls : List (Nat × Flag)) (ops : Array Oper) (e : Env) (m : Mm) (k : Env → Mm → Option X) (kp : AV → Env → Mm → Option X) : Option X :=
  (makeAll P fls ops.toList.zipIdx e m []).bind fun x =>
    if drawOk fls x.2.2 ops (Region.before ops) && ordAll fls x.2.2 (Region.before ops) ops.toList.zipIdx then evalSeqK P rec fls x.2.2 ops k ops.toList.zipIdx x.1 x.2.1
    else if drawOk fls x.2.2 ops (Region.before ops) && bare ops.toList.zipIdx then evalAgK P rec fls x.2.2 (Region.before ops) k ops.toList.zipIdx x.1 x.2.1 [] []
    else (evalDraw P rec fls ops e m).bind (contP k kp)
end
noncomputable def evalCodeK (P : Program) (A : FuncId → FAnn) (rec : Rec) (K : FuncId) : Code → Env → Mm → (Env → Mm → Rs) → Rs
  | .skip, e, m, k => k e m
  | .label _, e, m, k => k e m
  | .region id ops draw, e, m, k =>
    if draw then evalDrawK P rec ((aget (A K).flags id).getD []) ops e m (fun e' m' => k (cutBy (A K).lives id e') m') (fun v e' m' => some (.pan v, recut (A K).pans e', m'))
    else evalOpsK P rec ((aget (A K).flags id).getD []) ops (fun e' m' => k (cutBy (A K).lives id e') m') (fun v e' m' => some (.pan v, recut (A K).pans e', m')) ops.toList.zipIdx e m
  | .seq a b, e, m, k => evalCodeK P A rec K a e m fun e' m' => evalCodeK P A rec K b (cutJoin (A K) b e') m' k
  | .cond c a b, e, m, k => xJoin ((opv (opd e) c).bind fun v => (boolv v).bind fun t => if t then evalCodeK P A rec K a e m retN else evalCodeK P A rec K b e m retN) k
  | .block id c, e, m, k => xBlock id (evalCodeK P A rec K c e m retN) k
  | .loop c, e, m, k => xLoop rec (.loop K c ⟨(cutLoop (A K) c e m).1, (cutLoop (A K) c e m).2⟩) k
  | .scope c, e, m, k => evalCodeK P A rec K c e m k
  | .exit id, e, m, _ => some (.exit id, e, m)
  | .ret, e, m, _ => some (.ret, e, m)
  | _, _, _, _ => none
def xRound (rec : Rec) (r : Rs) (k : Env → Mm → Task) : Option TR := r.bind fun
  | (.normal, e, m) => rec (k e m)
  | (x, e, m) => some (.loop x ⟨e, m⟩)
noncomputable def stepK (P : Program) (A : FuncId → FAnn) (rec : Rec) : Task → Option TR
  | .call K args h => (P.funcs[K]?).bind fun fn => fn.body.bind fun c => if fn.name == "runtime.NumGoroutine" then none else (evalCodeK P A rec K c (argEnv args 0) ⟨[], h, []⟩ retN).bind fun x => finish P A rec fn x
  | .loop K c s => xRound rec (evalCodeK P A rec K c s.env s.mm retN) fun e m => .loop K c ⟨(cutLoop (A K) c e m).1, (cutLoop (A K) c e m).2⟩
section
variable {X : Type} {P : Program} {A : FuncId → FAnn} {rec : Rec} {fls : List (Nat × Flag)} {ops : Array Oper} {made : Made} {r : X}
theorem opd_fn (e : Env) (g : FuncId) : opd e (.func g) = .v (.fn g [] []) := rfl
theorem awantK_eq (e : Env) (o : Oper) : awanted ops e o = awantK ops e o := rfl
theorem evalOpsK_ok {k : Env → Mm → Option X} {kp : AV → Env → Mm → Option X} : ∀ {l : List (Oper × Nat)} {e : Env} {m : Mm}, evalOpsK P rec fls ops k kp l e m = some r → ∃ x, evalOps P rec fls ops l e m = some x ∧ contP k kp x = some r
  | [], e, m, h => ⟨_, rfl, h⟩
  | (o, i) :: l, e, m, h => by
    simp only [evalOpsK] at h
    simp only [evalOps, awantK_eq]
    split at h
    · rename_i hg
      obtain ⟨x, h1, h2⟩ := evalOpK_ok (fun g => rfl) h
      have hw : awantK ops e o = some true := by simp only [awantK, hg]
      simp only [hw, Option.bind_some, h1]
      cases x with
      | val v m' => exact evalOpsK_ok h2
      | pan v m' => exact ⟨_, rfl, h2⟩
    · rename_i q hg
      split at h
      · cases h
      · rename_i hs
        have hdr : dropFor (aget fls i) e = e := by
          unfold dropFor
          split
          · rename_i j hj
            rw [hj] at hs
            exact absurd rfl hs
          · rfl
        simp only [Option.bind_eq_some_iff] at h
        obtain ⟨t, h1, h2⟩ := h
        simp only [h1, Option.bind_some]
        simp only [xGuard, Option.bind_eq_some_iff] at h2
        obtain ⟨x, h3, h4⟩ := h2
        cases t with
        | false =>
          simp only [Bool.false_eq_true, if_false, Option.some.injEq] at h3
          subst h3
          exact evalOpsK_ok h4
        | true =>
          simp only [if_true] at h3
          obtain ⟨y, h5, h6⟩ := evalOpK_ok (fun g => rfl) h3
          simp only [h5, Option.bind_some, hdr]
          cases y with
          | val v m' =>
            simp only [orK, retV, Option.some.injEq] at h6
            subst h6
            exact evalOpsK_ok h4
          | pan v m' =>
            simp only [orK, retP, Option.some.injEq] at h6
            subst h6
            exact ⟨_, rfl, h4⟩
theorem opQ_ok {ρ : Ro} {m : Mm} {o : Oper} {i : Nat} {k : SV → Option X} (hg : ∀ g, ρ (.func g) = .v (.fn g [] [])) (h : opQ P rec fls made ρ m o i k = some r) : ∃ v m', evalQ P rec fls made ρ m o i = some (.val v m') ∧ k v = some r := by
  unfold opQ at h
  unfold evalQ
  split at h
  · rename_i p cs hm
    simp only [Option.bind_eq_some_iff] at h
    obtain ⟨v, h1, h2⟩ := h
    exact ⟨v, m, by simp only [hm, h1, Option.map_some], h2⟩
  · rename_i hm
    obtain ⟨x, h1, h2⟩ := evalOpK_ok hg h
    simp only [hm]
    cases x with
    | val v m' => exact ⟨v, m', h1, h2⟩
    | pan v m' => cases h2
theorem back_skip {β : Type} {b : Array Nat} {q : QRec} {y : Option β} : ∀ {hist : List (Nat × Mm)}, (∀ x ∈ hist, behind b q.i x.1 = true) → back P rec fls made b q hist y = y
  | [], _ => rfl
  | (j, m) :: h, hb => by
    simp only [back, hb (j, m) (.head _), if_true]
    exact back_skip fun x hx => hb x (.tail _ hx)
theorem ahead_skip {β : Type} {b : Array Nat} {j : Nat} {m : Mm} {y : Option β} : ∀ {qs : List QRec}, (∀ q ∈ qs, behind b j q.i = true) → ahead P rec fls made b j m qs y = y
  | [], _ => rfl
  | q :: h, hb => by
    simp only [ahead, hb q (.head _), if_true]
    exact ahead_skip fun x hx => hb x (.tail _ hx)
theorem evalSeqK_ok {b : Array Nat} {k : Env → Mm → Option X} : ∀ {l : List (Oper × Nat)} {e : Env} {m : Mm} {hist : List (Nat × Mm)} {qs : List QRec}, ordAll fls made b l = true →
    (∀ x ∈ hist, ∀ p ∈ l, loudM fls made p.1 p.2 = false → behind b p.2 x.1 = true) → (∀ q ∈ qs, ∀ p ∈ l, loudM fls made p.1 p.2 = true → behind b p.2 q.i = true) → evalSeqK P rec fls made ops k l e m = some r →
    ∃ e' m', evalD P rec fls made ops b l e m hist qs = some (.normal, e', m') ∧ k e' m' = some r
  | [], e, m, hist, qs, _, _, _, h => ⟨e, m, rfl, h⟩
  | (o, i) :: l, e, m, hist, qs, ho, hh, hq, h => by
    simp only [ordAll, Bool.and_eq_true, List.all_eq_true, Bool.or_eq_true, beq_iff_eq] at ho
    obtain ⟨ho1, ho2⟩ := ho
    have hh' : ∀ x ∈ hist, ∀ p ∈ l, loudM fls made p.1 p.2 = false → behind b p.2 x.1 = true := fun x hx p hp => hh x hx p (.tail _ hp)
    have hq' : ∀ q ∈ qs, ∀ p ∈ l, loudM fls made p.1 p.2 = true → behind b p.2 q.i = true := fun q hx p hp => hq q hx p (.tail _ hp)
    -- a loud one, a quiet one, done
    have hl : ∀ {v : SV} {m' : Mm}, loudM fls made o i = true → evalQ P rec fls made (opd e) m o i = some (.val v m') → evalSeqK P rec fls made ops k l (eput e o.dst v) m' = some r → awantK ops e o = some true →
        ∃ e' m', evalD P rec fls made ops b ((o, i) :: l) e m hist qs = some (.normal, e', m') ∧ k e' m' = some r := by
      intro v m' hL he hr hw
      obtain ⟨e', m2, h1, h2⟩ := evalSeqK_ok (hist := (i, m) :: hist) (qs := qs) ho2 (fun x hx p hp hpl => by
        rcases List.mem_cons.1 hx with rfl | hx
        · rcases ho1 p hp with g | g
          · rw [hL, hpl] at g; cases g
          · exact g
        · exact hh' x hx p hp hpl) hq' hr
      refine ⟨e', m2, ?_, h2⟩
      have hL' : (loud (aget fls i) o && (aget made i).isNone) = true := hL
      simp only [evalD, awantK_eq, hw, Option.bind_some, he, hL', if_true]
      rw [ahead_skip fun q hx => hq q hx (o, i) (.head _) hL]
      exact h1
    have hqu : ∀ {v : SV} {m' : Mm}, loudM fls made o i = false → evalQ P rec fls made (opd e) m o i = some (.val v m') → evalSeqK P rec fls made ops k l (eput e o.dst v) m = some r → awantK ops e o = some true →
        ∃ e' m', evalD P rec fls made ops b ((o, i) :: l) e m hist qs = some (.normal, e', m') ∧ k e' m' = some r := by
      intro v m' hL he hr hw
      obtain ⟨e', m2, h1, h2⟩ := evalSeqK_ok (hist := hist) (qs := ⟨o, i, e, v⟩ :: qs) ho2 hh' (fun q hx p hp hpl => by
        rcases List.mem_cons.1 hx with rfl | hx
        · rcases ho1 p hp with g | g
          · rw [hL, hpl] at g; cases g
          · exact g
        · exact hq' q hx p hp hpl) hr
      refine ⟨e', m2, ?_, h2⟩
      have hL' : (loud (aget fls i) o && (aget made i).isNone) = false := hL
      simp only [evalD, awantK_eq, hw, Option.bind_some, he, hL', Bool.false_eq_true, if_false]
      rw [back_skip fun x hx => hh x hx (o, i) (.head _) hL]
      exact h1
    have hno : awantK ops e o = some false → evalSeqK P rec fls made ops k l (eput e o.dst (.v (.tup []))) m = some r → ∃ e' m', evalD P rec fls made ops b ((o, i) :: l) e m hist qs = some (.normal, e', m') ∧ k e' m' = some r := by
      intro hw hr
      obtain ⟨e', m2, h1, h2⟩ := evalSeqK_ok (hist := hist) (qs := qs) ho2 hh' hq' hr
      refine ⟨e', m2, ?_, h2⟩
      simp only [evalD, awantK_eq, hw, Option.bind_some]
      exact h1
    simp only [evalSeqK] at h
    cases hL : loudM fls made o i with
    | true =>
      have hmade : aget made i = none := by
        unfold loudM at hL
        simp only [Bool.and_eq_true, Option.isNone_iff_eq_none] at hL
        exact hL.2
      have hev : ∀ m, evalQ P rec fls made (opd e) m o i = evalOp P rec (aget fls i) (opd e) m o := fun m => by unfold evalQ; simp only [hmade]
      simp only [hL, if_true] at h
      split at h
      · rename_i hg
        obtain ⟨x, h1, h2⟩ := evalOpK_ok (fun g => rfl) h
        cases x with
        | val v m' => exact hl hL (by rw [hev]; exact h1) h2 (by simp only [awantK, hg])
        | pan v m' => cases h2
      · simp only [Option.bind_eq_some_iff] at h
        obtain ⟨t, h1, h2⟩ := h
        simp only [xGuard, Option.bind_eq_some_iff] at h2
        obtain ⟨x, h3, h4⟩ := h2
        cases t with
        | false =>
          simp only [Bool.false_eq_true, if_false, Option.some.injEq] at h3
          subst h3
          exact hno h1 h4
        | true =>
          simp only [if_true] at h3
          obtain ⟨y, h5, h6⟩ := evalOpK_ok (fun g => rfl) h3
          cases y with
          | val v m' =>
            simp only [orK, retV, Option.some.injEq] at h6
            subst h6
            exact hl hL (by rw [hev]; exact h5) h4 h1
          | pan v m' => cases h6
    | false =>
      simp only [hL, Bool.false_eq_true, if_false] at h
      split at h
      · rename_i hg
        obtain ⟨v, m', h1, h2⟩ := opQ_ok (fun g => rfl) h
        exact hqu hL h1 h2 (by simp only [awantK, hg])
      · simp only [Option.bind_eq_some_iff] at h
        obtain ⟨t, h1, h2⟩ := h
        simp only [xGuardQ, Option.bind_eq_some_iff] at h2
        obtain ⟨x, h3, h4⟩ := h2
        cases t with
        | false =>
          simp only [Bool.false_eq_true, if_false, Option.some.injEq] at h3
          subst h3
          exact hno h1 h4
        | true =>
          simp only [if_true] at h3
          obtain ⟨v, m', h5, h6⟩ := opQ_ok (fun g => rfl) h3
          cases h6
          exact hqu hL h5 h4 h1
theorem opQ_val {ρ : Ro} {m : Mm} {o : Oper} {i : Nat} {v : SV} (hg : ∀ g, ρ (.func g) = .v (.fn g [] [])) (h : opQ P rec fls made ρ m o i some = some v) : valQ (evalQ P rec fls made ρ m o i) = some v := by
  obtain ⟨u, m', h1, h2⟩ := opQ_ok hg h
  cases h2
  rw [h1]; rfl
theorem agree_some {β : Type} {x : Option SV} {v : SV} {r : Option β} {y : β} (h : agree x v r = some y) : x = some v ∧ r = some y := by
  unfold agree at h
  split at h
  · split at h
    · rename_i e; subst e; exact ⟨rfl, h⟩
    · cases h
  · cases h
theorem backK_ok {β : Type} {b : Array Nat} {q : QRec} {x x' : Option β} {y : β} (hx : x = some y → x' = some y) : ∀ {hist : List (Nat × Mm)}, backK P rec fls made b q hist x = some y → back P rec fls made b q hist x' = some y
  | [], h => hx h
  | (j, m) :: hist, h => by
    simp only [backK] at h
    simp only [back]
    split at h
    · rename_i hb
      rw [if_pos hb]; exact backK_ok hx h
    · rename_i hb
      rw [if_neg hb]
      obtain ⟨h1, h2⟩ := agree_some h
      rw [agree_intro (opQ_val (fun g => rfl) h1)]
      exact backK_ok hx h2
theorem aheadK_ok {β : Type} {b : Array Nat} {j : Nat} {m : Mm} {x x' : Option β} {y : β} (hx : x = some y → x' = some y) : ∀ {qs : List QRec}, aheadK P rec fls made b j m qs x = some y → ahead P rec fls made b j m qs x' = some y
  | [], h => hx h
  | q :: qs, h => by
    simp only [aheadK] at h
    simp only [ahead]
    split at h
    · rename_i hb
      rw [if_pos hb]; exact aheadK_ok hx h
    · rename_i hb
      rw [if_neg hb]
      obtain ⟨h1, h2⟩ := agree_some h
      rw [agree_intro (opQ_val (fun g => rfl) h1)]
      exact aheadK_ok hx h2
theorem backK_in {β : Type} {b : Array Nat} {q : QRec} {x : Option β} {y : β} : ∀ {hist : List (Nat × Mm)}, backK P rec fls made b q hist x = some y → x = some y
  | [], h => h
  | (j, m) :: hist, h => by
    simp only [backK] at h
    split at h
    · exact backK_in h
    · exact backK_in (agree_some h).2
theorem aheadK_in {β : Type} {b : Array Nat} {j : Nat} {m : Mm} {x : Option β} {y : β} : ∀ {qs : List QRec}, aheadK P rec fls made b j m qs x = some y → x = some y
  | [], h => h
  | q :: qs, h => by
    simp only [aheadK] at h
    split at h
    · exact aheadK_in h
    · exact aheadK_in (agree_some h).2
theorem backK_swap {β γ : Type} {b : Array Nat} {q : QRec} {x : Option β} {y : β} {x' : Option γ} {y' : γ} (hx : x' = some y') : ∀ {hist : List (Nat × Mm)}, backK P rec fls made b q hist x = some y → back P rec fls made b q hist x' = some y'
  | [], _ => hx
  | (j, m) :: hist, h => by
    simp only [backK] at h
    simp only [back]
    split at h
    · rename_i hb
      rw [if_pos hb]; exact backK_swap hx h
    · rename_i hb
      rw [if_neg hb]
      obtain ⟨h1, h2⟩ := agree_some h
      rw [agree_intro (opQ_val (fun g => rfl) h1)]
      exact backK_swap hx h2
theorem aheadK_swap {β γ : Type} {b : Array Nat} {j : Nat} {m : Mm} {x : Option β} {y : β} {x' : Option γ} {y' : γ} (hx : x' = some y') : ∀ {qs : List QRec}, aheadK P rec fls made b j m qs x = some y → ahead P rec fls made b j m qs x' = some y'
  | [], _ => hx
  | q :: qs, h => by
    simp only [aheadK] at h
    simp only [ahead]
    split at h
    · rename_i hb
      rw [if_pos hb]; exact aheadK_swap hx h
    · rename_i hb
      rw [if_neg hb]
      obtain ⟨h1, h2⟩ := agree_some h
      rw [agree_intro (opQ_val (fun g => rfl) h1)]
      exact aheadK_swap hx h2
theorem evalAgK_ok {b : Array Nat} {k : Env → Mm → Option X} : ∀ {l : List (Oper × Nat)} {e : Env} {m : Mm} {hist : List (Nat × Mm)} {qs : List QRec}, bare l = true → evalAgK P rec fls made b k l e m hist qs = some r →
    ∃ e' m', evalD P rec fls made ops b l e m hist qs = some (.normal, e', m') ∧ k e' m' = some r
  | [], e, m, hist, qs, _, h => ⟨e, m, rfl, h⟩
  | (o, i) :: l, e, m, hist, qs, hb, h => by
    simp only [bare, List.all_cons, Bool.and_eq_true, Option.isNone_iff_eq_none] at hb
    have hbl : bare l = true := hb.2
    have hw : awantK ops e o = some true := by simp only [awantK, hb.1]
    simp only [evalAgK] at h
    cases hL : loudM fls made o i with
    | true =>
      have hL' : (loud (aget fls i) o && (aget made i).isNone) = true := hL
      have hmade : aget made i = none := by
        simp only [Bool.and_eq_true, Option.isNone_iff_eq_none] at hL'
        exact hL'.2
      simp only [hL, if_true] at h
      obtain ⟨x, h1, h2⟩ := evalOpK_ok (fun g => rfl) h
      cases x with
      | pan v m' => cases h2
      | val v m' =>
        have h2 : aheadK P rec fls made b i m' qs (evalAgK P rec fls made b k l (eput e o.dst v) m' ((i, m) :: hist) qs) = some r := h2
        obtain ⟨e', m2, h3, h4⟩ := evalAgK_ok hbl (aheadK_in h2)
        refine ⟨e', m2, ?_, h4⟩
        have he : evalQ P rec fls made (opd e) m o i = some (.val v m') := by
          unfold evalQ
          simp only [hmade]
          exact h1
        simp only [evalD, awantK_eq, hw, Option.bind_some, he, hL', if_true]
        exact aheadK_swap h3 h2
    | false =>
      have hL' : (loud (aget fls i) o && (aget made i).isNone) = false := hL
      simp only [hL, Bool.false_eq_true, if_false] at h
      obtain ⟨v, m', h1, h2⟩ := opQ_ok (fun g => rfl) h
      obtain ⟨e', m2, h3, h4⟩ := evalAgK_ok hbl (backK_in h2)
      refine ⟨e', m2, ?_, h4⟩
      simp only [evalD, awantK_eq, hw, Option.bind_some, h1, hL', Bool.false_eq_true, if_false]
      exact backK_swap h3 h2
theorem evalDrawK_ok {e : Env} {m : Mm} {k : Env → Mm → Option X} {kp : AV → Env → Mm → Option X} (h : evalDrawK P rec fls ops e m k kp = some r) : ∃ x, evalDraw P rec fls ops e m = some x ∧ contP k kp x = some r := by
  unfold evalDrawK at h
  simp only [Option.bind_eq_some_iff] at h
  obtain ⟨x, h1, h⟩ := h
  split at h
  · rename_i hc
    simp only [Bool.and_eq_true] at hc
    obtain ⟨e', m', h2, h3⟩ := evalSeqK_ok (hist := []) (qs := []) hc.2 (fun _ hx => by cases hx) (fun _ hx => by cases hx) h
    refine ⟨(.normal, e', m'), ?_, h3⟩
    unfold evalDraw
    simp only [h1, Option.bind_some, if_pos hc.1, h2]
  · split at h
    · rename_i hc
      simp only [Bool.and_eq_true] at hc
      obtain ⟨e', m', h2, h3⟩ := evalAgK_ok (ops := ops) hc.2 h
      refine ⟨(.normal, e', m'), ?_, h3⟩
      unfold evalDraw
      simp only [h1, Option.bind_some, if_pos hc.1, h2]
    · simpa only [Option.bind_eq_some_iff] using h
theorem evalCodeK_ok {K : FuncId} {r : Ex × Env × Mm} : ∀ {c : Code} {e : Env} {m : Mm} {k : Env → Mm → Rs}, evalCodeK P A rec K c e m k = some r → ∃ x, evalCode P A rec K c e m = some x ∧ contN k x = some r := by
  intro c
  have retN_eq : ∀ {x : Ex × Env × Mm} {r : Ex × Env × Mm}, contN retN x = some r → x = r := by
    rintro ⟨ex, e, m⟩ r h
    cases ex <;> exact Option.some.inj h
  induction c generalizing r with
  | skip => intro e m k h; exact ⟨_, rfl, h⟩
  | label _ => intro e m k h; exact ⟨_, rfl, h⟩
  | region id ops draw =>
    intro e m k h
    have fin : ∀ {x : Ex × Env × Mm}, contP (fun e' m' => k (cutBy (A K).lives id e') m') (fun v e' m' => some (.pan v, recut (A K).pans e', m')) x = some r → contN k (cutX (A K) id x) = some r := by
      rintro ⟨ex, e, m⟩ h
      cases ex <;> first | exact h | cases h
    simp only [evalCodeK] at h
    simp only [evalCode]
    cases draw with
    | true =>
      simp only [if_true] at h ⊢
      obtain ⟨x, h1, h2⟩ := evalDrawK_ok h
      exact ⟨_, by simp only [h1, Option.map_some], fin h2⟩
    | false =>
      simp only [Bool.false_eq_true, if_false] at h ⊢
      obtain ⟨x, h1, h2⟩ := evalOpsK_ok h
      exact ⟨_, by simp only [h1, Option.map_some], fin h2⟩
  | seq a b iha ihb =>
    intro e m k h
    simp only [evalCodeK] at h
    simp only [evalCode]
    obtain ⟨⟨ex, e1, m1⟩, h1, h2⟩ := iha h
    simp only [h1, Option.bind_some]
    cases ex with
    | normal =>
      obtain ⟨y, h3, h4⟩ := ihb h2
      exact ⟨y, h3, h4⟩
    | exit i => exact ⟨_, rfl, h2⟩
    | ret => exact ⟨_, rfl, h2⟩
    | pan v => exact ⟨_, rfl, h2⟩
  | cond c a b iha ihb =>
    intro e m k h
    simp only [evalCodeK, xJoin, Option.bind_eq_some_iff] at h
    obtain ⟨x, ⟨v, h1, t, h2, h3⟩, h4⟩ := h
    simp only [evalCode, h1, h2, Option.bind_some]
    cases t with
    | true =>
      simp only [if_true] at h3 ⊢
      obtain ⟨y, h5, h6⟩ := iha h3
      rw [retN_eq h6] at h5
      exact ⟨x, h5, h4⟩
    | false =>
      simp only [Bool.false_eq_true, if_false] at h3 ⊢
      obtain ⟨y, h5, h6⟩ := ihb h3
      rw [retN_eq h6] at h5
      exact ⟨x, h5, h4⟩
  | block id c ih =>
    intro e m k h
    simp only [evalCodeK, xBlock, Option.bind_eq_some_iff] at h
    obtain ⟨x, h1, h2⟩ := h
    obtain ⟨y, h3, h4⟩ := ih h1
    rw [retN_eq h4] at h3
    obtain ⟨ex, e1, m1⟩ := x
    simp only [evalCode, h3, Option.map_some]
    refine ⟨_, rfl, ?_⟩
    cases ex with
    | exit i =>
      simp only [contB] at h2 ⊢
      split at h2
      · rename_i hi
        rw [if_pos hi]; exact h2
      · rename_i hi
        rw [if_neg hi]; exact h2
    | _ => exact h2
  | loop c ih =>
    intro e m k h
    simp only [evalCodeK, xLoop, Option.bind_eq_some_iff] at h
    obtain ⟨t, h1, h2⟩ := h
    simp only [evalCode, h1, Option.bind_some]
    cases t with
    | call _ _ => cases h2
    | loop x s => exact ⟨_, rfl, h2⟩
  | scope c ih =>
    intro e m k h
    simp only [evalCodeK] at h
    obtain ⟨x, h1, h2⟩ := ih h
    exact ⟨x, by simp only [evalCode, h1], h2⟩
  | exit id => intro e m k h; exact ⟨_, rfl, h⟩
  | ret => intro e m k h; exact ⟨_, rfl, h⟩
  | _ => intro e m k h; simp only [evalCodeK] at h; cases h
theorem stepK_ok {t : Task} {r : TR} (h : stepK P A rec t = some r) : step P A rec t = some r := by
  have retN_eq : ∀ {x : Ex × Env × Mm} {r : Ex × Env × Mm}, contN retN x = some r → x = r := by
    rintro ⟨ex, e, m⟩ r h
    cases ex <;> exact Option.some.inj h
  cases t with
  | call K args hp =>
    simp only [stepK, Option.bind_eq_some_iff] at h
    simp only [step, Option.bind_eq_some_iff]
    obtain ⟨fn, h1, c, h2, h⟩ := h
    refine ⟨fn, h1, c, h2, ?_⟩
    split at h
    · cases h
    · rename_i hn
      rw [if_neg hn]
      simp only [Option.bind_eq_some_iff] at h ⊢
      obtain ⟨x, h3, h4⟩ := h
      obtain ⟨y, h5, h6⟩ := evalCodeK_ok h3
      rw [retN_eq h6] at h5
      exact ⟨x, h5, h4⟩
  | loop K c s =>
    simp only [stepK, xRound, Option.bind_eq_some_iff] at h
    simp only [step, Option.bind_eq_some_iff]
    obtain ⟨x, h1, h2⟩ := h
    obtain ⟨y, h3, h4⟩ := evalCodeK_ok h1
    rw [retN_eq h4] at h3
    refine ⟨x, h3, ?_⟩
    obtain ⟨ex, e, m⟩ := x
    cases ex <;> exact h2
theorem arunK {t : Task} {r : TR} (h : stepK P A (arun P A) t = some r) : arun P A t = some r := by
  rw [arun_step]
  exact stepK_ok h
end
end Go.Ai
/- The abstract interpreter in continuations: words for the functions' texts. -/
set_option linter.unusedSectionVars false
namespace Go.Ai
variable [Glob]
def zc (P : Program) (t : TypeId) : List AV := ((zeroT P t).bind cellsOf).getD []
def mset (m : Mm) (j : Nat) (cs : List AV) : Mm := { m with loc := aset m.loc j (.cells cs) }
def miter (m : Mm) (j : Nat) (s : ByteArray) : Mm := { m with loc := aset m.loc j (.iter s 0) }
def mpush (m : Mm) (cs : List AV) : Mm := { m with hp := m.hp ++ [cs] }
def mkeep (m : Mm) (sites : List Nat) : Mm := { m with loc := lkeep m.loc sites }
def mdefer (m : Mm) (v : AV) : Mm := { m with dfs := v :: m.dfs }
def m0 (h : Heap) : Mm := ⟨[], h, []⟩
def opvsL : List SV → Option (List AV)
  | [] => some []
  | x :: r => (valOf x).bind fun a => (opvsL r).bind fun as => some (a :: as)
def partsL : List (Nat × SV) → Option (List (Nat × AV))
  | [] => some []
  | (i, x) :: r => (valOf x).bind fun a => (partsL r).map ((i, a) :: ·)
def vof (s : SV) : AV := (valOf s).getD .junk
def nvOf (v : AV) : SV := .v v
def cGo : Code → List Nat → Code
  | c, [] => c
  | .seq a b, i :: r => cond (Nat.beq i 0) (cGo a r) (cGo b r)
  | .cond _ a b, i :: r => cond (Nat.beq i 0) (cGo a r) (cGo b r)
  | .block _ c, _ :: r => cGo c r
  | .loop c, _ :: r => cGo c r
  | .scope c, _ :: r => cGo c r
  | c, _ :: _ => c
def bodyAt (P : Program) (K : FuncId) : Code := ((P.funcs[K]?).bind (·.body)).getD .skip
def cAt (P : Program) (K : FuncId) (path : List Nat) : Code := cGo (bodyAt P K) path
def opsAt (P : Program) (K : FuncId) (path : List Nat) : Array Oper := match cAt P K path with | .region _ ops _ => ops | _ => #[]
def flsAt (A : FuncId → FAnn) (K : FuncId) (id : Nat) : List (Nat × Flag) := (aget (A K).flags id).getD []
noncomputable def fin (P : Program) (A : FuncId → FAnn) (K : FuncId) (rec : Rec) (x : Ex × Env × Mm) : Option TR := match P.funcs[K]? with | some fn => finish P A rec fn x | none => none
end Go.Ai
set_option linter.unusedSectionVars false
namespace Go.Ai
variable [Glob]
def xCallR {X : Type} (rec : Rec) (m : Mm) (K : FuncId) (args : List AV) (kp : AV → Mm → Option X) (k : AV → Mm → Option X) : Option X := xCall rec m K args k kp
def xPureR {X : Type} (rec : Rec) (m : Mm) (K : FuncId) (args : List AV) (kp : AV → Option X) (k : AV → Option X) : Option X := xPure rec m K args k kp
def xGuardR {X : Type} (t : Bool) (r : Option OR) (m : Mm) (kp : AV → Mm → Option X) (k : SV → Mm → Option X) : Option X := xGuard t r m k kp
def xDraw {X : Type} (r : Rs) (kp : AV → Env → Mm → Option X) (k : Env → Mm → Option X) : Option X := r.bind (contP k kp)
end Go.Ai
