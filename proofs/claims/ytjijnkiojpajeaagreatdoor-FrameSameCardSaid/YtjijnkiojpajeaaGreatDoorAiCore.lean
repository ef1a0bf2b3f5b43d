/- The abstract interpreter: abstract values, its operations, its evaluator. Definitions alone, over any program. -/
import Derived.Calls
import Derived.Defers
import Derived.Recover
import Derived.Laws.Sem
namespace Go.Ai

/-- Abstract values. 'snap': a slice of memory that no one writes any more (bw: an outer call may write it later). 'own': a slice of the abstract heap's object id. 'sp': a pointer into memory that no one writes. -/
inductive AV where
  | sc (v : Value)
  | agg (cs : List AV)
  | tup (vs : List AV)
  | ifc (t : TypeId) (v : AV)
  | fn (f : FuncId) (first captured : List AV)
  | nils
  | snap (bw : Bool) (size len : Nat) (cells : List AV)
  | own (id off size len acap ep : Nat)
  | ptr (id off ep : Nat)
  | sp (bw : Bool) (cells : List AV)
  | junk
  deriving Inhabited

/-- What a slot holds: a value, or the address of a local object. -/
inductive SV where
  | v (a : AV)
  | l (k off : Nat)
  deriving Inhabited

inductive LObj where
  | cells (cs : List AV)
  | iter (s : ByteArray) (pos : Nat)
  deriving Inhabited

abbrev Heap := List (List AV)
abbrev Env := List (Nat × SV)
abbrev Loc := List (Nat × LObj)

/-- Memory: local objects by their site, shared objects by their number, the deferred calls ('fn f args captured', the last one first). -/
structure Mm where
  loc : Loc
  hp : Heap
  dfs : List AV

structure St where
  env : Env
  mm : Mm

inductive Ex where
  | normal
  | exit (id : Nat)
  | ret
  | pan (v : AV)

inductive Flag where
  | site (k : Nat)
  | heap
  | own
  | virt (size : Nat)

/-- Annotations of a function, trusted in nothing: of each region its operations' flags; the slots that are kept behind a region, where ways meet, at a loop (with its local objects), at a panic; true: a value's, not an address's. -/
structure FAnn where
  flags : List (Nat × List (Nat × Flag)) := []
  lives : List (Nat × List (Nat × Bool)) := []
  joins : List (Nat × List (Nat × Bool)) := []
  loops : List (Nat × (List (Nat × Bool) × List Nat)) := []
  pans : List (Nat × Bool) := []

inductive CR where
  | ret (v : AV)
  | pan (v : AV)

inductive OR where
  | val (v : SV) (m : Mm)
  | pan (v : AV) (m : Mm)

inductive Task where
  | call (K : FuncId) (args : List AV) (hp : Heap)
  | loop (K : FuncId) (body : Code) (s : St)

inductive TR where
  | call (r : CR) (hp : Heap)
  | loop (e : Ex) (s : St)

abbrev J : SV := .v .junk

/-! ### lists by key -/
def aget {β : Type} : List (Nat × β) → Nat → Option β
  | [], _ => none
  | (k, v) :: r, i => cond (Nat.beq k i) (some v) (aget r i)
def aset {β : Type} : List (Nat × β) → Nat → β → List (Nat × β)
  | [], i, v => [(i, v)]
  | (k, w) :: r, i, v => cond (Nat.beq k i) ((i, v) :: r) (cond (Nat.ble i k) ((i, v) :: (k, w) :: r) ((k, w) :: aset r i v))
def mem (l : List Nat) (i : Nat) : Bool := l.any (Nat.beq i)
def eget (e : Env) (i : Nat) : SV := (aget e i).getD J
/-- An address of a local object that is made anew is forgotten. -/
def unl (k : Nat) : SV → SV
  | .l k' off => cond (Nat.beq k' k) J (.l k' off)
  | .v a => .v a
def edrop : Env → Nat → Env
  | [], _ => []
  | (i, s) :: r, k => (i, unl k s) :: edrop r k
def valOf : SV → Option AV
  | .v a => some a
  | .l _ _ => none
def vget (e : Env) (i : Nat) : AV := (valOf (eget e i)).getD .junk
/-- These slots alone. -/
def recutIn (e : Env) : List (Nat × Bool) → Env → Env
  | [], acc => acc
  | (i, b) :: r, acc => recutIn e r (aset acc i (cond b (.v (vget e i)) (eget e i)))
def recut (l : List (Nat × Bool)) (e : Env) : Env := recutIn e l []
def cutBy (l : List (Nat × List (Nat × Bool))) (id : Nat) (e : Env) : Env :=
  match aget l id with
  | some s => recut s e
  | none => e
def cutX (F : FAnn) (id : Nat) : Ex × Env × Mm → Ex × Env × Mm
  | (.normal, e, m) => (.normal, cutBy F.lives id e, m)
  | (.pan v, e, m) => (.pan v, recut F.pans e, m)
  | r => r
def lkeep (l : Loc) (sites : List Nat) : Loc := l.filter fun p => mem sites p.1
def eput (e : Env) (d : Option Tmp) (v : SV) : Env :=
  match d with
  | some d => aset e d v
  | none => e

/-! ### values -/
def toAV1 : Value → AV
  | .slice none 0 0 => .nils
  | v => .sc v
def toAV : Value → AV
  | .slice none 0 0 => .nils
  | .agg cs => if cs.toList.all (·.oneCell') then .agg (cs.toList.map toAV1) else .junk
  | v => .sc v
def okCell : AV → Bool
  | .sc v => v.oneCell'
  | .agg _ | .tup _ | .junk => false
  | _ => true
/-- A value's cells, as memory bears them. -/
def cellsOf : AV → Option (List AV)
  | .agg cs => some cs
  | v => if okCell v then some [v] else none
/-- What package variables are known to hold: plain cells, which nobody writes. -/
class Glob where
  gl : Nat → Option (List Value)
set_option linter.unusedSectionVars false
variable [Glob]
def opd (e : Env) : Operand → SV
  | .tmp t => eget e t
  | .const v => .v (toAV v)
  | .global g => match Glob.gl g with
    | some us => .v (.sp false (us.map .sc))
    | none => .v (.sc (.pointer (some ⟨g, 0, none⟩)))
  | .func f => .v (.fn f [] [])
abbrev Ro := Operand → SV
def opv (ρ : Ro) (x : Operand) : Option AV := valOf (ρ x)
def opvs (ρ : Ro) : List Operand → Option (List AV)
  | [] => some []
  | x :: r => (opv ρ x).bind fun a => (opvs ρ r).bind fun as => some (a :: as)
def intv : AV → Option (IntKind × Int)
  | .sc (.int k n) => some (k, n)
  | _ => none
def boolv : AV → Option Bool
  | .sc (.bool b) => some b
  | _ => none
def strv : AV → Option ByteArray
  | .sc (.string s) => some s
  | _ => none
def mkInt (n : Int) : AV := .sc (.int .i64 n)
def mkBool (b : Bool) : AV := .sc (.bool b)

/-! ### memory -/
def rdCells (isAgg : Bool) (size : Nat) (cs : List AV) (off : Nat) : Option AV :=
  if isAgg then (if off + size ≤ cs.length then some (.agg ((cs.drop off).take size)) else none) else cs[off]?
/-- The cells behind an address. -/
def cellsAt (s : Mm) : SV → Option (List AV × Nat)
  | .l k off => match aget s.loc k with | some (.cells cs) => some (cs, off) | _ => none
  | .v (.ptr id off ep) => (s.hp[id]?).bind fun cs => if cs.length = ep then some (cs, off) else none
  | .v (.sp _ cs) => some (cs, 0)
  | _ => none
def aLoad (isAgg : Bool) (size : Nat) (s : Mm) (p : SV) : Option AV := (cellsAt s p).bind fun c => rdCells isAgg size c.1 c.2
/-- 'new' laid over cs from off on. -/
def splice (cs : List AV) (off : Nat) (new : List AV) : List AV := cs.take off ++ new ++ cs.drop (off + new.length)
def wrCells (cs : List AV) (off : Nat) (new : List AV) : Option (List AV) :=
  match new with
  | [v] => if off < cs.length then some (cs.set off v) else none
  | _ => if off + new.length ≤ cs.length then some (splice cs off new) else none
def aStore (isAgg : Bool) (size : Nat) (s : Mm) (p : SV) (v : AV) : Option Mm :=
  (cellsOf v).bind fun new =>
    if new.length = size ∧ (isAgg = true ∨ size = 1) then
      match p with
      | .l k off => match aget s.loc k with
        | some (.cells cs) => (wrCells cs off new).map fun cs' => { s with loc := aset s.loc k (.cells cs') }
        | _ => none
      | .v (.ptr id off ep) => (s.hp[id]?).bind fun cs => if cs.length = ep then (wrCells cs off new).map fun cs' => { s with hp := s.hp.set id cs' } else none
      | _ => none
    else none
def aField (s : Mm) (off : Nat) : SV → Option SV
  | .l k o => some (.l k (o + off))
  | .v (.ptr id o ep) => (s.hp[id]?).bind fun cs => if cs.length = ep then some (.v (.ptr id (o + off) ep)) else none
  | .v (.sp b cs) => some (.v (.sp b (cs.drop off)))
  | _ => none
def aNilCheck (s : Mm) : SV → Option SV
  | .l k o => some (.l k o)
  | .v (.ptr id o ep) => (s.hp[id]?).bind fun cs => if cs.length = ep then some (.v (.ptr id o ep)) else none
  | .v (.sp b cs) => some (.v (.sp b cs))
  | .v (.fn f a c) => some (.v (.fn f a c))
  | .v (.ifc t x) => some (.v (.ifc t x))
  | _ => none
/-- The address of an element of a slice. -/
def aIndexS (s : Mm) (size : Nat) (i : Int) : AV → Option SV
  | .snap b sz len cells => if sz = size ∧ 0 < size ∧ len * size ≤ cells.length ∧ 0 ≤ i ∧ i < len then some (.v (.sp b (cells.drop (i.toNat * size)))) else none
  | .own id off sz len _ ep => (s.hp[id]?).bind fun cs => if cs.length = ep ∧ sz = size ∧ 0 ≤ i ∧ i < len then some (.v (.ptr id (off + i.toNat * size) ep)) else none
  | _ => none
/-- .. of an array behind an address. -/
def aIndexA (s : Mm) (n size : Nat) (i : Int) (p : SV) : Option SV := if 0 ≤ i ∧ i < n then aField s (i.toNat * size) p else none
def aLenS (s : Mm) : AV → Option Nat
  | .nils => some 0
  | .snap _ _ len _ => some len
  | .own id _ _ len _ ep => (s.hp[id]?).bind fun cs => if cs.length = ep then some len else none
  | _ => none
/-- The cells of a slice's elements. -/
def aCells (s : Mm) (size : Nat) : AV → Option (List AV)
  | .nils => some []
  | .snap _ sz len cells => if sz = size ∧ len * size ≤ cells.length then some (cells.take (len * size)) else none
  | .own id off sz len acap ep => (s.hp[id]?).bind fun cs => if cs.length = ep ∧ sz = size ∧ len ≤ acap ∧ off + acap * size ≤ ep then some ((cs.drop off).take (len * size)) else none
  | _ => none
def strCells (b : ByteArray) : List AV := b.data.toList.map fun x => .sc (.int .u8 x.toNat)
/-- What is appended: a slice's cells or a string's bytes. -/
def srcCells (s : Mm) (size : Nat) : AV → Option (List AV)
  | .sc (.string b) => if size = 1 then some (strCells b) else none
  | x => aCells s size x
def room : Nat := 140737488355328
def aAppend (s : Mm) (size bytes : Nat) (x y : AV) : Option (AV × Mm) :=
  if size = 0 ∨ bytes = 0 then none else
  (srcCells s size y).bind fun new =>
    match x with
    | .nils =>
      if new.length = 0 then some (.nils, s)
      else if new.length / size * bytes ≤ room then
        some (.own s.hp.length 0 size (new.length / size) (new.length / size) new.length, { s with hp := s.hp ++ [new] })
      else none
    | .own id off sz len acap ep => (s.hp[id]?).bind fun cs =>
      if cs.length = ep ∧ sz = size ∧ len ≤ acap ∧ off + acap * size ≤ ep ∧ (len + new.length / size) * bytes ≤ room then
        if len + new.length / size ≤ acap then
          some (.own id off size (len + new.length / size) acap ep, { s with hp := s.hp.set id (splice cs (off + len * size) new) })
        else if off = 0 ∧ acap * size = ep then
          some (.own id 0 size (len + new.length / size) (len + new.length / size) (len * size + new.length), { s with hp := s.hp.set id (cs.take (len * size) ++ new) })
        else none
      else none
    | _ => none
/-- The bounds of a slice expression: low, high, max (cap: what is known of it). -/
def optNat : Option AV → Option (Option Int)
  | none => some none
  | some v => (intv v).map fun x => some x.2
def aSliceS (s : Mm) (size : Nat) (lo hi mx : Option Int) (x : AV) : Option AV :=
  let l := lo.getD 0
  match x with
  | .nils => if l = 0 ∧ hi.getD 0 = 0 ∧ mx.getD 0 = 0 ∧ (mx.isSome = true → hi.isSome = true) then some .nils else none
  | .snap b sz len cells =>
    let h := hi.getD len
    let m := mx.getD (cells.length / size : Nat)
    if sz = size ∧ 0 < size ∧ 0 ≤ l ∧ l ≤ h ∧ h ≤ m ∧ m ≤ (cells.length / size : Nat) ∧ (mx.isSome = true → hi.isSome = true) then
      some (.snap b size (h - l).toNat ((cells.take (m.toNat * size)).drop (l.toNat * size)))
    else none
  | .own id off sz len acap ep => (s.hp[id]?).bind fun cs =>
    let h := hi.getD len
    let m := mx.getD acap
    if cs.length = ep ∧ sz = size ∧ 0 < size ∧ len ≤ acap ∧ off + acap * size ≤ ep ∧ 0 ≤ l ∧ l ≤ h ∧ h ≤ m ∧ m ≤ acap ∧ (mx.isSome = true → hi.isSome = true) then
      some (.own id (off + l.toNat * size) size (h - l).toNat (m - l).toNat ep)
    else none
  | _ => none
/-- A slice expression of an array behind an address. -/
def aSliceA (s : Mm) (n size : Nat) (lo hi mx : Option Int) (p : SV) : Option AV :=
  let l := lo.getD 0
  let h := hi.getD n
  let m := mx.getD n
  if 0 < size ∧ n ≤ room ∧ 0 ≤ l ∧ l ≤ h ∧ h ≤ m ∧ m ≤ n ∧ (mx.isSome = true → hi.isSome = true) then
    match p with
    | .v (.ptr id off ep) => (s.hp[id]?).bind fun cs => if cs.length = ep ∧ off + n * size ≤ ep then some (.own id (off + l.toNat * size) size (h - l).toNat (m - l).toNat ep) else none
    | .v (.sp b cs) => if n * size ≤ cs.length then some (.snap b size (h - l).toNat ((cs.take (m.toNat * size)).drop (l.toNat * size))) else none
    | _ => none
  else none
def aSliceStr (lo hi : Option Int) (b : ByteArray) : Option AV :=
  let l := lo.getD 0
  let h := hi.getD b.size
  if 0 ≤ l ∧ l ≤ h ∧ h ≤ b.size then some (.sc (.string (b.extract l.toNat h.toNat))) else none

/-! ### numbers, texts -/
def aBits (op : BinOp) (k : IntKind) (a b : Int) : Option Int :=
  let x := BitVec.ofInt k.bits a
  let y := BitVec.ofInt k.bits b
  match op with
  | .and => some (k.wrap (x &&& y).toNat)
  | .or => some (k.wrap (x ||| y).toNat)
  | .xor => some (k.wrap (x ^^^ y).toNat)
  | .andNot => some (k.wrap (x &&& ~~~y).toNat)
  | _ => none
def aIntOp (op : BinOp) (k : IntKind) (a b : Int) : Option AV :=
  match op with
  | .add => some (.sc (.int k (k.wrap (a + b))))
  | .sub => some (.sc (.int k (k.wrap (a - b))))
  | .mul => some (.sc (.int k (k.wrap (a * b))))
  | .quo => if b = 0 then none else some (.sc (.int k (k.wrap (a.tdiv b))))
  | .rem => if b = 0 then none else some (.sc (.int k (a.tmod b)))
  | .eql => some (mkBool (a == b))
  | .neq => some (mkBool (a != b))
  | .lss => some (mkBool (a < b))
  | .leq => some (mkBool (a ≤ b))
  | .gtr => some (mkBool (a > b))
  | .geq => some (mkBool (a ≥ b))
  | op => (aBits op k a b).map fun n => .sc (.int k n)
def aShift (op : BinOp) (k : IntKind) (a b : Int) : Option AV :=
  if b < 0 then none else
  match op with
  | .shl => some (.sc (.int k (k.wrap (a * 2 ^ (min b.toNat k.bits)))))
  | .shr => some (.sc (.int k (a.fdiv (2 ^ (min b.toNat k.bits)))))
  | _ => none
def aStrOp (op : BinOp) (x y : ByteArray) : Option AV :=
  match op with
  | .add => if ((x.size + y.size : Nat) : Int) > IntKind.i64.max then none else some (.sc (.string (x ++ y)))
  | .eql => some (mkBool (x.toList == y.toList))
  | .neq => some (mkBool (!(x.toList == y.toList)))
  | .lss => some (mkBool (Op.bytesLess x.toList y.toList))
  | .leq => some (mkBool (Op.bytesLess x.toList y.toList || x.toList == y.toList))
  | .gtr => some (mkBool (!(Op.bytesLess x.toList y.toList || x.toList == y.toList)))
  | .geq => some (mkBool (!Op.bytesLess x.toList y.toList))
  | _ => none
/-- '==' of two cells of a plain type. -/
def eqAt (P : Program) (t : TypeId) (x y : AV) : Option Bool :=
  match P.underlying t, x, y with
  | some (.int _), .sc (.int j a), .sc (.int k b) => if j = k then some (a == b) else none
  | some .string, .sc (.string a), .sc (.string b) => some (a.toList == b.toList)
  | some .bool, .sc (.bool a), .sc (.bool b) => some (a == b)
  | _, _, _ => none
def eqFs (P : Program) : List Field → List AV → List AV → Option Bool
  | [], _, _ => some true
  | f :: r, xs, ys => if f.name = "_" then none else (xs[f.offset]?).bind fun x => (ys[f.offset]?).bind fun y => (eqAt P f.type x y).bind fun c => if c then eqFs P r xs ys else some false
/-- '==' with nil. -/
def isNilv (P : Program) (t : TypeId) (s : Mm) (x : SV) : Option Bool :=
  match P.underlying t, x with
  | some (.pointer _), .l _ _ => some false
  | some (.pointer _), .v (.sc (.pointer none)) => some true
  | some (.pointer _), .v (.sp _ _) => some false
  | some (.pointer _), .v (.ptr id _ ep) => (s.hp[id]?).bind fun cs => if cs.length = ep then some false else none
  | some (.interface _), .v (.sc .nilIface) => some true
  | some (.interface _), .v (.ifc _ _) => some false
  | some (.func ..), .v (.sc .nilFunc) => some true
  | some (.func ..), .v (.fn _ _ _) => some false
  | _, _ => none
def nilConst (P : Program) (t : TypeId) : Operand → Bool
  | .const .nilIface => (match P.underlying t with | some (.interface _) => true | _ => false)
  | .const (.pointer none) => (match P.underlying t with | some (.pointer _) => true | _ => false)
  | .const .nilFunc => (match P.underlying t with | some (.func ..) => true | _ => false)
  | _ => false
def neg (op : BinOp) (b : Bool) : Option AV :=
  match op with
  | .eql => some (mkBool b)
  | .neq => some (mkBool (!b))
  | _ => none
def aBin (op : BinOp) (x y : AV) : Option AV :=
  match x, y with
  | .sc (.int k a), .sc (.int k' b) =>
    (match op with
    | .shl | .shr => aShift op k a b
    | _ => if k = k' then aIntOp op k a b else none)
  | .sc (.string a), .sc (.string b) => aStrOp op a b
  | .sc (.bool a), .sc (.bool b) => neg op (a == b)
  | _, _ => none
def aUn (op : UnOp) (x : AV) : Option AV :=
  match op, x with
  | .not, .sc (.bool b) => some (mkBool (!b))
  | .neg, .sc (.int k n) => some (.sc (.int k (k.wrap (0 - n))))
  | .xor, .sc (.int k n) => (aBits .xor k (if k.signed then -1 else k.max) n).map fun m => .sc (.int k m)
  | _, _ => none
def cellBytes : List AV → Option (List UInt8)
  | [] => some []
  | .sc (.int .u8 n) :: r => (cellBytes r).map (UInt8.ofNat n.toNat :: ·)
  | _ => none
def aMin (op : Builtin) (x y : AV) : Option AV :=
  match op, x, y with
  | .min, .sc (.int k a), .sc (.int k' b) => if k = k' then some (.sc (.int k (if b < a then b else a))) else none
  | .max, .sc (.int k a), .sc (.int k' b) => if k = k' then some (.sc (.int k (if b > a then b else a))) else none
  | _, _, _ => none
def aMins (op : Builtin) : AV → List AV → Option AV
  | x, [] => some x
  | x, y :: r => (aMin op x y).bind fun z => aMins op z r

/-! ### trees: what goes into a pure call and comes back -/
mutual
/-- A value, each of its references to objects replaced. -/
def mapOwn (g : AV → Option AV) : AV → Option AV
  | .sc v => some (.sc v)
  | .agg cs => (mapOwns g cs).map .agg
  | .tup cs => (mapOwns g cs).map .tup
  | .ifc t v => (mapOwn g v).map (.ifc t)
  | .fn f a c => (mapOwns g a).bind fun a' => (mapOwns g c).map fun c' => .fn f a' c'
  | .nils => some .nils
  | .snap b sz len cs => (mapOwns g cs).map (.snap b sz len)
  | .sp b cs => (mapOwns g cs).map (.sp b)
  | .own id off size len acap ep => g (.own id off size len acap ep)
  | .ptr id off ep => g (.ptr id off ep)
  | .junk => none
def mapOwns (g : AV → Option AV) : List AV → Option (List AV)
  | [] => some []
  | v :: r => (mapOwn g v).bind fun v' => (mapOwns g r).map (v' :: ·)
end
/-- A value as a tree: the objects of h as memory that no one writes meanwhile (bw) or any more. n: how deep. -/
def tree (bw : Bool) (h : Heap) : Nat → AV → Option AV
  | 0 => mapOwn fun _ => none
  | n + 1 => mapOwn fun
    | .own id off size len acap ep => (h[id]?).bind fun cs =>
      if cs.length = ep ∧ len ≤ acap ∧ off + acap * size ≤ ep then (mapOwns (tree bw h n) ((cs.drop off).take (acap * size))).map (.snap bw size len) else none
    | .ptr id off ep => (h[id]?).bind fun cs => if cs.length = ep then (mapOwns (tree bw h n) (cs.drop off)).map (.sp bw) else none
    | _ => none
mutual
/-- No part of it is borrowed. -/
def lasting : AV → Bool
  | .sc _ => true
  | .agg cs => lastings cs
  | .tup cs => lastings cs
  | .ifc _ v => lasting v
  | .fn _ a c => lastings a && lastings c
  | .nils => true
  | .snap b _ _ cs => !b && lastings cs
  | .sp b cs => !b && lastings cs
  | .own _ _ _ _ _ _ => false
  | .ptr _ _ _ => false
  | .junk => false
def lastings : List AV → Bool
  | [] => true
  | v :: r => lasting v && lastings r
end
def deep : Nat := 20
/-- The arguments of a pure call. -/
def lend (h : Heap) (args : List AV) : Option (List AV) := match h with | [] => some args | _ => mapOwns (tree true h deep) args
/-- The result of a pure call: h the caller's heap, h' the callee's. -/
def give (h h' : Heap) (v : AV) : Option AV :=
  (match h' with | [] => some v | _ => tree false h' deep v).bind fun v' => match h with | [] => some v' | _ => if lasting v' then some v' else none

/-! ### types -/
def isAggT (P : Program) (t : TypeId) : Option Bool :=
  match P.underlying t with
  | some (.struct _) | some (.array _ _) => some true
  | some _ => some false
  | none => none
def szT (P : Program) (t : TypeId) : Option Nat := (P.info? t).map (·.size)
def bytesT (P : Program) (t : TypeId) : Option Nat := (P.info? t).map (·.bytes)
def elemT (P : Program) (t : TypeId) : Option TypeId := match P.underlying t with | some (.slice e) => some e | _ => none
def zeroT (P : Program) (t : TypeId) : Option AV := (P.info? t).bind fun i => i.zero.map toAV
/-- '==' of two values of a struct type. -/
def eqStruct (P : Program) (t : TypeId) (x y : AV) : Option Bool :=
  match P.underlying t, x, y with
  | some (.struct fs), .agg xs, .agg ys => if P.stoodInHeld t = false ∧ P.eqGuardType P.depth t = false then eqFs P fs.toList xs ys else none
  | _, _, _ => none
/-- Where a field lies, and how many cells it has. -/
def fieldT (P : Program) (t : TypeId) (f : Nat) : Option (TypeId × Nat × Nat) :=
  match P.underlying t with
  | some (.struct fs) => (fs[f]?).bind fun x => (szT P x.type).bind fun n => if n = 0 then none else some (x.type, x.offset, n)
  | _ => none
def fillCells (places : Nat → Option (Nat × Nat)) (cells : List AV) : List (Nat × AV) → Option (List AV)
  | [] => some cells
  | (i, v) :: r => (places i).bind fun p => (cellsOf v).bind fun new =>
      if new.length = p.2 ∧ p.1 + new.length ≤ cells.length then fillCells places (splice cells p.1 new) r else none
def partsOf (s : Ro) : List (Nat × Operand) → Option (List (Nat × AV))
  | [] => some []
  | (i, x) :: r => (opv s x).bind fun a => (partsOf s r).map ((i, a) :: ·)
def repeatCells (z : List AV) : Nat → List AV
  | 0 => []
  | n + 1 => z ++ repeatCells z n
def callOf (s : Ro) (c : Call) : Option (FuncId × List AV) :=
  match c.callee with
  | .value f => (opvs s c.args.toList).bind fun args => match s f with
    | .v (.fn g first captured) => some (g, first ++ args ++ captured)
    | _ => none
  | _ => none

/-! ### operations -/
abbrev Rec := Task → Option TR
def doCall (rec : Rec) (shared : Bool) (m : Mm) (K : FuncId) (args : List AV) : Option OR :=
  if shared then
    (rec (.call K args m.hp)).bind fun
      | .call (.ret v) h => some (.val (.v v) { m with hp := h })
      | .call (.pan v) h => some (.pan v { m with hp := h })
      | _ => none
  else
    (lend m.hp args).bind fun as => (rec (.call K as [])).bind fun
      | .call (.ret v) h => (give m.hp h v).map fun v' => .val (.v v') m
      | .call (.pan v) h => (give m.hp h v).map fun v' => .pan v' m
      | _ => none
def isHeap : Option Flag → Bool
  | some .heap => true
  | _ => false
def isOwn : Option Flag → Bool
  | some .own => true
  | _ => false
/-- A new variable. -/
def newBox (fl : Option Flag) (m : Mm) (cs : List AV) : OR :=
  match fl with
  | some (.site k) => .val (.l k 0) { m with loc := aset m.loc k (.cells cs) }
  | _ => .val (.v (.ptr m.hp.length 0 cs.length)) { m with hp := m.hp ++ [cs] }
def newSlice (fl : Option Flag) (m : Mm) (size len : Nat) (cs : List AV) : OR :=
  if isOwn fl then .val (.v (.own m.hp.length 0 size len len cs.length)) { m with hp := m.hp ++ [cs] } else .val (.v (.snap false size len cs)) m
def ret1 (m : Mm) (v : Option AV) : Option OR := v.map fun a => .val (.v a) m
def retS (m : Mm) (v : Option SV) : Option OR := v.map fun a => .val a m
def skip1 (m : Option Mm) : Option OR := m.map fun m' => .val (.v (.tup [])) m'
def aMove (fl : Option Flag) (m : Mm) (x : SV) : Option OR :=
  match fl, x with
  | some (.virt size), .v .nils => some (.val (.v (.own m.hp.length 0 size 0 0 0)) { m with hp := m.hp ++ [[]] })
  | some (.virt _), _ => none
  | _, x => some (.val x m)
def aBinOp (P : Program) (ρ : Ro) (m : Mm) (op : BinOp) (xt : TypeId) (x y : Operand) : Option AV :=
  if nilConst P xt y then (isNilv P xt m (ρ x)).bind (neg op)
  else (opv ρ x).bind fun a => (opv ρ y).bind fun b => match a with
    | .agg xs => (eqStruct P xt (.agg xs) b).bind (neg op)
    | .sc (.bool _) => (match P.underlying xt with | some .bool => aBin op a b | _ => none)
    | _ => aBin op a b
def aConvert (P : Program) (fl : Option Flag) (m : Mm) (src dst : TypeId) (x : AV) : Option OR :=
  match P.underlying src, P.underlying dst, x with
  | some (.int _), some (.int k), .sc (.int _ n) => some (.val (.v (.sc (.int k (k.wrap n)))) m)
  | some (.int _), some .string, .sc (.int _ n) => some (.val (.v (.sc (.string (Utf8.encode n)))) m)
  | some .string, some .string, .sc (.string s) => some (.val (.v (.sc (.string s))) m)
  | some .string, some (.slice e), .sc (.string s) =>
    match P.underlying e, szT P e with
    | some (.int .u8), some 1 => if room < s.size then none else some (if isOwn fl then .val (.v (.own m.hp.length 0 1 s.size s.size s.size)) { m with hp := m.hp ++ [strCells s] } else .val (.v (.snap false 1 s.size (strCells s))) m)
    | _, _ => none
  | some (.slice _), some (.slice e), .own id off size len acap ep =>
    match src == dst, P.underlying e, m.hp[id]? with
    | true, some (.int .u8), some cs => if cs.length = ep ∧ ep ≠ 0 then some (.val (.v (.own id off size len acap ep)) m) else none
    | _, _, _ => none
  | some (.slice e), some .string, x =>
    match P.underlying e with
    | some (.int .u8) => (aCells m 1 x).bind fun cs => (cellBytes cs).map fun bs => .val (.v (.sc (.string ⟨bs.toArray⟩))) m
    | _ => none
  | _, _, _ => none
/-- Where the fields of a struct lie, and how many cells each has. -/
def placesOf (P : Program) : List Field → Option (List (Nat × Nat))
  | [] => some []
  | f :: r => (szT P f.type).bind fun n => (placesOf P r).map ((f.offset, n) :: ·)
def aBuild (P : Program) (ρ : Ro) (t : TypeId) (parts : List (Nat × Operand)) : Option AV :=
  match P.underlying t, zeroT P t with
  | some (.struct fs), some (.agg z) =>
    (placesOf P fs.toList).bind fun pl => (partsOf ρ parts).bind fun ps => (fillCells (fun i => pl[i]?) z ps).map .agg
  | some (.array _ e), some (.agg z) =>
    (szT P e).bind fun n => (partsOf ρ parts).bind fun ps => (fillCells (fun i => some (i * n, n)) z ps).map .agg
  | _, _ => none
def aBuildSlice (P : Program) (ρ : Ro) (fl : Option Flag) (m : Mm) (t : TypeId) (len : Nat) (parts : List (Nat × Operand)) : Option OR :=
  (elemT P t).bind fun e => (szT P e).bind fun n => (zeroT P e).bind fun z => (cellsOf z).bind fun zc =>
    if 0 < n ∧ zc.length = n ∧ len * n ≤ 2 ^ 24 then
      (partsOf ρ parts).bind fun ps => (fillCells (fun i => some (i * n, n)) (repeatCells zc len) ps).map fun cs => newSlice fl m n len cs
    else none
def aMakeSlice (P : Program) (fl : Option Flag) (m : Mm) (t : TypeId) (l c : AV) : Option OR :=
  (elemT P t).bind fun e => (szT P e).bind fun n => (bytesT P e).bind fun by_ => (zeroT P e).bind fun z => (cellsOf z).bind fun zc =>
    (intv l).bind fun l => (intv c).bind fun c =>
      if 0 < n ∧ zc.length = n ∧ 0 ≤ l.2 ∧ l.2 ≤ c.2 ∧ c.2 ≤ room ∧ by_ * c.2 ≤ 2 * room then
        (if isOwn fl then some (.val (.v (.own m.hp.length 0 n l.2.toNat c.2.toNat (c.2.toNat * n))) { m with hp := m.hp ++ [repeatCells zc c.2.toNat] }) else none)
      else none
def aSlice (P : Program) (ρ : Ro) (m : Mm) (t : TypeId) (x : Operand) (lo hi mx : Option Operand) : Option AV :=
  let o (y : Option Operand) : Option (Option Int) := match y with | none => some none | some y => (opv ρ y).bind fun v => (intv v).map fun p => some p.2
  (o lo).bind fun l => (o hi).bind fun h => (o mx).bind fun k =>
    match P.underlying t with
    | some .string => if k.isSome then none else (opv ρ x).bind fun v => (strv v).bind fun b => aSliceStr l h b
    | some (.slice e) => (szT P e).bind fun n => (opv ρ x).bind fun v => aSliceS m n l h k v
    | some (.pointer arr) => (match P.underlying arr with | some (.array n e) => (szT P e).bind fun sz => aSliceA m n sz l h k (ρ x) | _ => none)
    | some (.array n e) => (szT P e).bind fun sz => aSliceA m n sz l h k (ρ x)
    | _ => none
def aIndexAddr (P : Program) (ρ : Ro) (m : Mm) (t : TypeId) (x i : Operand) : Option SV :=
  (opv ρ i).bind fun iv => (intv iv).bind fun k =>
    match P.underlying t with
    | some (.slice e) => (szT P e).bind fun n => (opv ρ x).bind fun v => aIndexS m n k.2 v
    | some (.array n e) => (szT P e).bind fun sz => if sz = 0 then none else aIndexA m n sz k.2 (ρ x)
    | _ => none
def aIndex (P : Program) (t : TypeId) (x i : AV) : Option AV :=
  (intv i).bind fun k =>
    match P.underlying t, x with
    | some .string, .sc (.string s) => if 0 ≤ k.2 then (s[k.2.toNat]?).map fun b => .sc (.int .u8 b.toNat) else none
    | some (.array n e), .agg cs => (szT P e).bind fun sz => (isAggT P e).bind fun g => if 0 ≤ k.2 ∧ k.2 < n then rdCells g sz cs (k.2.toNat * sz) else none
    | _, _ => none
def aFieldV (P : Program) (t : TypeId) (x : AV) (f : Nat) : Option AV :=
  match x with
  | .agg cs => (fieldT P t f).bind fun p => (isAggT P p.1).bind fun g => rdCells g p.2.2 cs p.2.1
  | _ => none
def aAssert (P : Program) (x : AV) (t : TypeId) (ok : Bool) : Option AV :=
  match P.underlying t with
  | some (.interface _) => none
  | some _ =>
    (match x with
    | .ifc u v => if u = t then some (if ok then .tup [v, mkBool true] else v) else if ok then (zeroT P t).map fun z => .tup [z, mkBool false] else none
    | .sc .nilIface => if ok then (zeroT P t).map fun z => .tup [z, mkBool false] else none
    | _ => none)
  | none => none
def aBuiltin (P : Program) (ρ : Ro) (m : Mm) (b : Builtin) (c : Call) : Option OR :=
  match b, c.args.toList, c.argTypes.toList with
  | .len, [x], [t] =>
    (match P.underlying t with
    | some .string => ret1 m ((opv ρ x).bind fun v => (strv v).map fun s => mkInt s.size)
    | some (.slice _) => ret1 m ((opv ρ x).bind fun v => (aLenS m v).map fun (n : Nat) => mkInt n)
    | some (.array n _) => ret1 m (some (mkInt n))
    | some (.pointer arr) => (match P.underlying arr with | some (.array n _) => ret1 m (some (mkInt n)) | _ => none)
    | _ => none)
  | .append, [x, y], [t, t'] =>
    (match P.underlying t' with
    | some (.int _) => none
    | some _ => (elemT P t).bind fun e => (szT P e).bind fun n => (bytesT P e).bind fun by_ => (zeroT P e).bind fun z => (cellsOf z).bind fun zc => if zc.length = n then (opv ρ x).bind fun a => (opv ρ y).bind fun b => (aAppend m n by_ a b).map fun r => .val (.v r.1) r.2 else none
    | none => none)
  | .copy, [x, y], t :: _ =>
    (elemT P t).bind fun e => (szT P e).bind fun n => (opv ρ x).bind fun a => (opv ρ y).bind fun b =>
      if n = 0 then none else
      (srcCells m n b).bind fun src => match a with
        | .own id off sz len acap ep => (m.hp[id]?).bind fun cs =>
          if cs.length = ep ∧ sz = n ∧ len ≤ acap ∧ off + acap * n ≤ ep then
            some (.val (.v (mkInt (min (src.length / n) len : Nat))) { m with hp := m.hp.set id (splice cs off (src.take (min (src.length / n) len * n))) })
          else none
        | _ => none
  | .clear, [x], [t] =>
    (elemT P t).bind fun e => (szT P e).bind fun n => (zeroT P e).bind fun z => (cellsOf z).bind fun zc => (opv ρ x).bind fun a =>
      match a with
      | .own id off sz len acap ep => (m.hp[id]?).bind fun cs =>
        if cs.length = ep ∧ sz = n ∧ zc.length = n ∧ 0 < n ∧ len ≤ acap ∧ off + acap * n ≤ ep then some (.val (.v (.tup [])) { m with hp := m.hp.set id (splice cs off (repeatCells zc len)) }) else none
      | .nils => some (.val (.v (.tup [])) m)
      | .snap _ _ 0 _ => some (.val (.v (.tup [])) m)
      | _ => none
  | .min, x :: r, _ => ret1 m ((opv ρ x).bind fun a => (opvs ρ r).bind fun as => aMins .min a as)
  | .max, x :: r, _ => ret1 m ((opv ρ x).bind fun a => (opvs ρ r).bind fun as => aMins .max a as)
  | _, _, _ => none
/-- One operation: what it gives, and memory behind it. -/
def evalOp (P : Program) (rec : Rec) (fl : Option Flag) (ρ : Ro) (m : Mm) (o : Oper) : Option OR :=
  match o.op with
  | .move x => aMove fl m (ρ x)
  | .assign x => aMove fl m (ρ x)
  | .pick c a b => (opv ρ c).bind fun v => (boolv v).map fun t => .val (if t then ρ a else ρ b) m
  | .alloc e => (zeroT P e).bind fun z => (cellsOf z).map fun cs => newBox fl m cs
  | .box _ x => (opv ρ x).bind fun v => (cellsOf v).map fun cs => newBox fl m cs
  | .build t parts => ret1 m (aBuild P ρ t parts.toList)
  | .buildSlice t len parts => aBuildSlice P ρ fl m t len parts.toList
  | .load t p => (isAggT P t).bind fun g => (szT P t).bind fun n => ret1 m (aLoad g n m (ρ p))
  | .store t p x => (isAggT P t).bind fun g => (szT P t).bind fun n => (opv ρ x).bind fun v => skip1 (aStore g n m (ρ p) v)
  | .nilCheck x => retS m (aNilCheck m (ρ x))
  | .binOp op xt x y _ => ret1 m (aBinOp P ρ m op xt x y)
  | .unOp op _ x => ret1 m ((opv ρ x).bind (aUn op))
  | .convert src dst x => (opv ρ x).bind (aConvert P fl m src dst)
  | .makeInterface xt x => (match P.underlying xt with | some (.interface _) => none | some _ => ret1 m ((opv ρ x).bind fun v => match v with | .junk => none | v => some (.ifc xt v)) | none => none)
  | .makeFunc (.func f) first captured => ret1 m ((opvs ρ first.toList).bind fun a => (opvs ρ captured.toList).map fun c => .fn f a c)
  | .makeSlice t l c => (opv ρ l).bind fun l => (opv ρ c).bind fun c => aMakeSlice P fl m t l c
  | .slice t x lo hi mx => ret1 m (aSlice P ρ m t x lo hi mx)
  | .fieldAddr t x f => (fieldT P t f).bind fun p => retS m (aField m p.2.1 (ρ x))
  | .field t x f => ret1 m ((opv ρ x).bind fun v => aFieldV P t v f)
  | .indexAddr t x i => retS m (aIndexAddr P ρ m t x i)
  | .index t x i => ret1 m ((opv ρ x).bind fun a => (opv ρ i).bind fun b => aIndex P t a b)
  | .range t x => (match P.underlying t, fl with
    | some .string, some (.site k) => (opv ρ x).bind fun v => (strv v).map fun s => .val (.l k 0) { m with loc := aset m.loc k (.iter s 0) }
    | _, _ => none)
  | .next x true => (match ρ x with
    | .l k 0 => (match aget m.loc k with
      | some (.iter s pos) =>
        if pos < s.size then
          some (.val (.v (.tup [mkBool true, mkInt pos, .sc (.int .i32 (Utf8.decode s pos).1)])) { m with loc := aset m.loc k (.iter s (pos + (Utf8.decode s pos).2)) })
        else some (.val (.v (.tup [mkBool false])) m)
      | _ => none)
    | _ => none)
  | .typeAssert x _ t ok => ret1 m ((opv ρ x).bind fun v => aAssert P v t ok)
  | .extract x i => ret1 m ((opv ρ x).bind fun v => match v with | .tup vs => vs[i]? | _ => none)
  | .panic x => (opv ρ x).bind fun v => match v with | .ifc t u => some (.pan (.ifc t u) m) | _ => none
  | .call c =>
    (match c.callee with
    | .builtin b => aBuiltin P ρ m b c
    | .value _ => (callOf ρ c).bind fun p => doCall rec (isHeap fl) m p.1 p.2
    | .invoke _ _ => none)
  | .defer c => (callOf ρ c).bind fun _ => (opvs ρ c.args.toList).bind fun args => (match c.callee with
    | .value f => (match ρ f with | .v (.fn g first captured) => some (.val (.v (.tup [])) { m with dfs := .fn g (first ++ args) captured :: m.dfs }) | _ => none)
    | _ => none)
  | _ => none

/-! ### regions -/
/-- Is an operation wanted by its guard? none: it can't be told. -/
def awanted (ops : Array Oper) (e : Env) (o : Oper) : Option Bool :=
  match o.guard with
  | none => some true
  | some (j, want) =>
    match (ops[j]?).bind (·.dst) with
    | none => some false
    | some d => match eget e d with
      | .v (.sc (.bool b)) => some (b == want)
      | .v (.tup _) => some false
      | _ => none
def dropFor (fl : Option Flag) (e : Env) : Env := match fl with | some (.site k) => edrop e k | _ => e
def evalOps (P : Program) (rec : Rec) (fls : List (Nat × Flag)) (ops : Array Oper) : List (Oper × Nat) → Env → Mm → Option (Ex × Env × Mm)
  | [], e, m => some (.normal, e, m)
  | (o, i) :: r, e, m =>
    (awanted ops e o).bind fun
      | false => evalOps P rec fls ops r (eput e o.dst (.v (.tup []))) m
      | true => (evalOp P rec (aget fls i) (opd e) m o).bind fun
        | .val v m' => evalOps P rec fls ops r (eput (dropFor (aget fls i) e) o.dst v) m'
        | .pan v m' => some (.pan v, e, m')

/-! ### regions that draw their order -/
mutual
def same : AV → AV → Bool
  | .sc (.int j a), .sc (.int k b) => j == k && a == b
  | .sc (.string a), .sc (.string b) => a.data == b.data
  | .sc (.bool a), .sc (.bool b) => a == b
  | .sc .nilIface, .sc .nilIface => true
  | .sc .nilFunc, .sc .nilFunc => true
  | .sc (.pointer a), .sc (.pointer b) => a == b
  | .agg a, .agg b => sames a b
  | .tup a, .tup b => sames a b
  | .ifc t a, .ifc u b => t == u && same a b
  | .fn f a c, .fn g b d => f == g && sames a b && sames c d
  | .nils, .nils => true
  | .snap a b c d, .snap a' b' c' d' => a == a' && b == b' && c == c' && sames d d'
  | .own a b c d e f, .own a' b' c' d' e' f' => a == a' && b == b' && c == c' && d == d' && e == e' && f == f'
  | .ptr a b c, .ptr a' b' c' => a == a' && b == b' && c == c'
  | .sp a b, .sp a' b' => a == a' && sames b b'
  | .junk, .junk => true
  | _, _ => false
def sames : List AV → List AV → Bool
  | [], [] => true
  | a :: as, b :: bs => same a b && sames as bs
  | _, _ => false
end
mutual
theorem same_eq : ∀ (a b : AV), same a b = true → a = b
  | .sc v, .sc u, h => by
    cases v <;> cases u <;> simp_all [same, ByteArray.ext_iff]
  | .agg a, .agg b, h => by simp only [same] at h; rw [sames_eq a b h]
  | .tup a, .tup b, h => by simp only [same] at h; rw [sames_eq a b h]
  | .ifc t a, .ifc u b, h => by simp only [same, Bool.and_eq_true, beq_iff_eq] at h; rw [h.1, same_eq a b h.2]
  | .fn f a c, .fn g b d, h => by simp only [same, Bool.and_eq_true, beq_iff_eq] at h; rw [h.1.1, sames_eq a b h.1.2, sames_eq c d h.2]
  | .nils, .nils, _ => rfl
  | .snap a b c d, .snap a' b' c' d', h => by simp only [same, Bool.and_eq_true, beq_iff_eq] at h; rw [h.1.1.1, h.1.1.2, h.1.2, sames_eq d d' h.2]
  | .own a b c d e f, .own a' b' c' d' e' f', h => by simp only [same, Bool.and_eq_true, beq_iff_eq] at h; obtain ⟨⟨⟨⟨⟨rfl, rfl⟩, rfl⟩, rfl⟩, rfl⟩, rfl⟩ := h; rfl
  | .ptr a b c, .ptr a' b' c', h => by simp only [same, Bool.and_eq_true, beq_iff_eq] at h; obtain ⟨⟨rfl, rfl⟩, rfl⟩ := h; rfl
  | .sp a b, .sp a' b', h => by simp only [same, Bool.and_eq_true, beq_iff_eq] at h; rw [h.1, sames_eq b b' h.2]
  | .junk, .junk, _ => rfl
  | .sc _, .agg _, h | .sc _, .tup _, h | .sc _, .ifc _ _, h | .sc _, .fn _ _ _, h | .sc _, .nils, h | .sc _, .snap _ _ _ _, h | .sc _, .own _ _ _ _ _ _, h | .sc _, .ptr _ _ _, h | .sc _, .sp _ _, h | .sc _, .junk, h => by simp [same] at h
  | .agg _, .sc _, h | .agg _, .tup _, h | .agg _, .ifc _ _, h | .agg _, .fn _ _ _, h | .agg _, .nils, h | .agg _, .snap _ _ _ _, h | .agg _, .own _ _ _ _ _ _, h | .agg _, .ptr _ _ _, h | .agg _, .sp _ _, h | .agg _, .junk, h => by simp [same] at h
  | .tup _, .sc _, h | .tup _, .agg _, h | .tup _, .ifc _ _, h | .tup _, .fn _ _ _, h | .tup _, .nils, h | .tup _, .snap _ _ _ _, h | .tup _, .own _ _ _ _ _ _, h | .tup _, .ptr _ _ _, h | .tup _, .sp _ _, h | .tup _, .junk, h => by simp [same] at h
  | .ifc _ _, .sc _, h | .ifc _ _, .agg _, h | .ifc _ _, .tup _, h | .ifc _ _, .fn _ _ _, h | .ifc _ _, .nils, h | .ifc _ _, .snap _ _ _ _, h | .ifc _ _, .own _ _ _ _ _ _, h | .ifc _ _, .ptr _ _ _, h | .ifc _ _, .sp _ _, h | .ifc _ _, .junk, h => by simp [same] at h
  | .fn _ _ _, .sc _, h | .fn _ _ _, .agg _, h | .fn _ _ _, .tup _, h | .fn _ _ _, .ifc _ _, h | .fn _ _ _, .nils, h | .fn _ _ _, .snap _ _ _ _, h | .fn _ _ _, .own _ _ _ _ _ _, h | .fn _ _ _, .ptr _ _ _, h | .fn _ _ _, .sp _ _, h | .fn _ _ _, .junk, h => by simp [same] at h
  | .nils, .sc _, h | .nils, .agg _, h | .nils, .tup _, h | .nils, .ifc _ _, h | .nils, .fn _ _ _, h | .nils, .snap _ _ _ _, h | .nils, .own _ _ _ _ _ _, h | .nils, .ptr _ _ _, h | .nils, .sp _ _, h | .nils, .junk, h => by simp [same] at h
  | .snap _ _ _ _, .sc _, h | .snap _ _ _ _, .agg _, h | .snap _ _ _ _, .tup _, h | .snap _ _ _ _, .ifc _ _, h | .snap _ _ _ _, .fn _ _ _, h | .snap _ _ _ _, .nils, h | .snap _ _ _ _, .own _ _ _ _ _ _, h | .snap _ _ _ _, .ptr _ _ _, h | .snap _ _ _ _, .sp _ _, h | .snap _ _ _ _, .junk, h => by simp [same] at h
  | .own _ _ _ _ _ _, .sc _, h | .own _ _ _ _ _ _, .agg _, h | .own _ _ _ _ _ _, .tup _, h | .own _ _ _ _ _ _, .ifc _ _, h | .own _ _ _ _ _ _, .fn _ _ _, h | .own _ _ _ _ _ _, .nils, h | .own _ _ _ _ _ _, .snap _ _ _ _, h | .own _ _ _ _ _ _, .ptr _ _ _, h | .own _ _ _ _ _ _, .sp _ _, h | .own _ _ _ _ _ _, .junk, h => by simp [same] at h
  | .ptr _ _ _, .sc _, h | .ptr _ _ _, .agg _, h | .ptr _ _ _, .tup _, h | .ptr _ _ _, .ifc _ _, h | .ptr _ _ _, .fn _ _ _, h | .ptr _ _ _, .nils, h | .ptr _ _ _, .snap _ _ _ _, h | .ptr _ _ _, .own _ _ _ _ _ _, h | .ptr _ _ _, .sp _ _, h | .ptr _ _ _, .junk, h => by simp [same] at h
  | .sp _ _, .sc _, h | .sp _ _, .agg _, h | .sp _ _, .tup _, h | .sp _ _, .ifc _ _, h | .sp _ _, .fn _ _ _, h | .sp _ _, .nils, h | .sp _ _, .snap _ _ _ _, h | .sp _ _, .own _ _ _ _ _ _, h | .sp _ _, .ptr _ _ _, h | .sp _ _, .junk, h => by simp [same] at h
  | .junk, .sc _, h | .junk, .agg _, h | .junk, .tup _, h | .junk, .ifc _ _, h | .junk, .fn _ _ _, h | .junk, .nils, h | .junk, .snap _ _ _ _, h | .junk, .own _ _ _ _ _ _, h | .junk, .ptr _ _ _, h | .junk, .sp _ _, h => by simp [same] at h
theorem sames_eq : ∀ (a b : List AV), sames a b = true → a = b
  | [], [], _ => rfl
  | a :: as, b :: bs, h => by simp only [sames, Bool.and_eq_true] at h; rw [same_eq a b h.1, sames_eq as bs h.2]
  | [], _ :: _, h => by simp [sames] at h
  | _ :: _, [], h => by simp [sames] at h
end
def sameS : SV → SV → Bool
  | .v a, .v b => same a b
  | .l k o, .l k' o' => k == k' && o == o'
  | _, _ => false
theorem sameS_eq (a b : SV) (h : sameS a b = true) : a = b := by
  cases a <;> cases b <;> simp only [sameS, Bool.false_eq_true, Bool.and_eq_true, beq_iff_eq] at h
  · rw [same_eq _ _ h]
  · rw [h.1, h.2]
noncomputable instance : DecidableEq SV := fun a b => if h : sameS a b = true then isTrue (sameS_eq a b h) else Classical.propDecidable _
/-- Goes on if the first is the second. -/
noncomputable def agree {β : Type} (x : Option SV) (v : SV) (r : Option β) : Option β :=
  match x with
  | some u => if u = v then r else none
  | none => none

/-- May an operation change memory? (A pure call doesn't.) -/
def loud (fl : Option Flag) (o : Oper) : Bool :=
  match o.op with
  | .store .. | .box .. | .alloc .. | .makeSlice .. | .defer _ | .panic _ | .range .. | .next .. => true
  | .move _ | .assign _ => (match fl with | some (.virt _) => true | _ => false)
  | .buildSlice .. | .convert .. => isOwn fl
  | .call c => (match c.callee with
    | .builtin .append | .builtin .copy | .builtin .clear => true
    | .builtin _ => false
    | _ => isHeap fl)
  | _ => false
/-- What the variables that a region makes are, from its begin on: the operation's number, its address, its cells. -/
abbrev Made := List (Nat × (SV × List AV))
/-- Do its cells still stand? -/
noncomputable def stands (m : Mm) (p : SV) (cs : List AV) : Option SV :=
  match p with
  | .l k 0 => (match aget m.loc k with | some (.cells cs') => agree (some (.v (.agg cs'))) (.v (.agg cs)) (some (.l k 0)) | _ => none)
  | .v (.ptr id 0 ep) => (m.hp[id]?).bind fun cs' => agree (some (.v (.agg cs'))) (.v (.agg cs)) (some (.v (.ptr id 0 ep)))
  | _ => none
/-- The value of an operation that doesn't change memory. -/
noncomputable def evalQ (P : Program) (rec : Rec) (fls : List (Nat × Flag)) (made : Made) (ρ : Ro) (m : Mm) (o : Oper) (i : Nat) : Option OR :=
  match aget made i with
  | some (p, cs) => (stands m p cs).map fun v => .val v m
  | none => evalOp P rec (aget fls i) ρ m o
def valQ : Option OR → Option SV
  | some (.val v _) => some v
  | _ => none
/-- All variables that a region makes, made ahead. -/
def makeAll (P : Program) (fls : List (Nat × Flag)) : List (Oper × Nat) → Env → Mm → Made → Option (Env × Mm × Made)
  | [], e, m, acc => some (e, m, acc)
  | (o, i) :: r, e, m, acc =>
    match o.op, o.guard with
    | .alloc t, none => (zeroT P t).bind fun z => (cellsOf z).bind fun cs =>
      match cs, aget fls i with
      | [], _ => makeAll P fls r e m acc
      | cs, some (.site k) => if acc.any (fun q => match q.2.1 with | .l k' _ => Nat.beq k k' | _ => false) then none else makeAll P fls r (edrop e k) { m with loc := aset m.loc k (.cells cs) } (acc ++ [(i, (.l k 0, cs))])
      | cs, _ => makeAll P fls r e { m with hp := m.hp ++ [cs] } (acc ++ [(i, (.v (.ptr m.hp.length 0 cs.length), cs))])
    | _, _ => makeAll P fls r e m acc
structure QRec where
  o : Oper
  i : Nat
  e : Env
  v : SV
def behind (b : Array Nat) (i j : Nat) : Bool := (b.getD i 0).testBit j
/-- A quiet operation gives the same ahead of each loud one that it need not wait for. -/
noncomputable def back {β : Type} (P : Program) (rec : Rec) (fls : List (Nat × Flag)) (made : Made) (b : Array Nat) (q : QRec) : List (Nat × Mm) → Option β → Option β
  | [], r => r
  | (j, m) :: h, r => if behind b q.i j then back P rec fls made b q h r else agree (valQ (evalQ P rec fls made (opd q.e) m q.o q.i)) q.v (back P rec fls made b q h r)
/-- .. and behind a loud one that need not wait for it. -/
noncomputable def ahead {β : Type} (P : Program) (rec : Rec) (fls : List (Nat × Flag)) (made : Made) (b : Array Nat) (j : Nat) (m : Mm) : List QRec → Option β → Option β
  | [], r => r
  | q :: h, r => if behind b j q.i then ahead P rec fls made b j m h r else agree (valQ (evalQ P rec fls made (opd q.e) m q.o q.i)) q.v (ahead P rec fls made b j m h r)
/-- What is left of a region behind a panic of the operation j: those that need not wait for it go through. -/
noncomputable def rest (P : Program) (rec : Rec) (fls : List (Nat × Flag)) (made : Made) (ops : Array Oper) (b : Array Nat) (j : Nat) (hist : List (Nat × Mm)) : List (Oper × Nat) → Env → Mm → Option Unit
  | [], _, _ => some ()
  | (o, i) :: r, e, m =>
    if behind b i j then rest P rec fls made ops b j hist r e m else
    if loud (aget fls i) o && (aget made i).isNone then none else
    (awanted ops e o).bind fun
      | false => rest P rec fls made ops b j hist r (eput e o.dst (.v (.tup []))) m
      | true => match evalQ P rec fls made (opd e) m o i with
        | some (.val v _) => back P rec fls made b ⟨o, i, e, v⟩ hist (rest P rec fls made ops b j hist r (eput e o.dst v) m)
        | _ => none
def dropAll (e : Env) : List (Oper × Nat) → Env
  | [] => e
  | (o, _) :: r => dropAll (match o.dst with | some d => e.filter fun p => !Nat.beq p.1 d | none => e) r
noncomputable def evalD (P : Program) (rec : Rec) (fls : List (Nat × Flag)) (made : Made) (ops : Array Oper) (b : Array Nat) :
    List (Oper × Nat) → Env → Mm → List (Nat × Mm) → List QRec → Option (Ex × Env × Mm)
  | [], e, m, _, _ => some (.normal, e, m)
  | (o, i) :: r, e, m, hist, qs =>
    (awanted ops e o).bind fun
      | false => evalD P rec fls made ops b r (eput e o.dst (.v (.tup []))) m hist qs
      | true => match evalQ P rec fls made (opd e) m o i with
        | none => none
        | some (.pan v m') => if hist.all fun j => behind b i j.1 then (rest P rec fls made ops b i hist r e m).map fun _ => (.pan v, dropAll e (ops.toList.zipIdx), m') else none
        | some (.val v m') =>
          if loud (aget fls i) o && (aget made i).isNone then
            ahead P rec fls made b i m' qs (evalD P rec fls made ops b r (eput e o.dst v) m' ((i, m) :: hist) qs)
          else
            back P rec fls made b ⟨o, i, e, v⟩ hist (evalD P rec fls made ops b r (eput e o.dst v) m hist (⟨o, i, e, v⟩ :: qs))
/-- The slots that an operation names, its guard's among them. -/
def tmpsOf : List Operand → List Tmp
  | [] => []
  | .tmp t :: r => t :: tmpsOf r
  | _ :: r => tmpsOf r
def readsOf (ops : Array Oper) (o : Oper) : List Tmp :=
  tmpsOf o.op.operands.toList ++ (match o.guard with | some (j, _) => (match (ops[j]?).bind (·.dst) with | some d => [d] | none => []) | none => [])
def clash (ops : Array Oper) (x y : Oper) : Bool :=
  (match x.dst with | some d => mem (readsOf ops y) d || (y.dst == some d) | none => false) ||
  (match y.dst with | some d => mem (readsOf ops x) d | none => false)
/-- What is asked of a region's order: edges lead back; operations that share a slot that one of them writes wait for each other; so do those that are loud, and each for its guard. -/
def isSiteF (fl : Option Flag) : Bool := match fl with | some (.site _) => true | _ => false
def drawOk (fls : List (Nat × Flag)) (made : Made) (ops : Array Oper) (b : Array Nat) : Bool :=
  let l := ops.toList.zipIdx
  l.all fun (o, j) =>
    (o.after.toList.all fun e => !Region.binds .any e || Nat.blt e.on j) &&
    ((aget made j).isSome || !isSiteF (aget fls j)) &&
    (match o.guard with | some (g, _) => behind b j g | none => true) &&
    (l.all fun (p, i) => !Nat.blt i j || behind b j i || !(clash ops p o || (loud (aget fls j) o && (aget made j).isNone && loud (aget fls i) p && (aget made i).isNone)))
noncomputable def evalDraw (P : Program) (rec : Rec) (fls : List (Nat × Flag)) (ops : Array Oper) (e : Env) (m : Mm) : Option (Ex × Env × Mm) :=
  (makeAll P fls ops.toList.zipIdx e m []).bind fun x =>
    if drawOk fls x.2.2 ops (Region.before ops) then evalD P rec fls x.2.2 ops (Region.before ops) ops.toList.zipIdx x.1 x.2.1 [] [] else none

/-! ### code -/
def firstReg : Code → Nat
  | .region id _ _ => id
  | .seq a b => if firstReg a = 0 then firstReg b else firstReg a
  | .block _ c | .loop c | .scope c => firstReg c
  | .cond _ a b => if firstReg a = 0 then firstReg b else firstReg a
  | _ => 0
def cutLoop (A : FAnn) (c : Code) (e : Env) (m : Mm) : Env × Mm :=
  match aget A.loops (firstReg c) with
  | some (slots, sites) => (recut slots e, { m with loc := lkeep m.loc sites })
  | none => (e, m)
def cutJoin (F : FAnn) (c : Code) (e : Env) : Env := cutBy F.joins (firstReg c) e
noncomputable def evalCode (P : Program) (A : FuncId → FAnn) (rec : Rec) (K : FuncId) : Code → Env → Mm → Option (Ex × Env × Mm)
  | .skip, e, m => some (.normal, e, m)
  | .label _, e, m => some (.normal, e, m)
  | .region id ops draw, e, m =>
    (if draw then evalDraw P rec ((aget (A K).flags id).getD []) ops e m else evalOps P rec ((aget (A K).flags id).getD []) ops ops.toList.zipIdx e m).map (cutX (A K) id)
  | .seq a b, e, m => (evalCode P A rec K a e m).bind fun
      | (.normal, e', m') => evalCode P A rec K b (cutJoin (A K) b e') m'
      | r => some r
  | .cond c a b, e, m => (opv (opd e) c).bind fun v => (boolv v).bind fun t => if t then evalCode P A rec K a e m else evalCode P A rec K b e m
  | .block id c, e, m => (evalCode P A rec K c e m).map fun
      | (.exit id', e', m') => if id' = id then (.normal, e', m') else (.exit id', e', m')
      | r => r
  | .loop c, e, m => (rec (.loop K c ⟨(cutLoop (A K) c e m).1, (cutLoop (A K) c e m).2⟩)).bind fun
      | .loop x s => some (x, s.env, s.mm)
      | _ => none
  | .scope c, e, m => evalCode P A rec K c e m
  | .exit id, e, m => some (.exit id, e, m)
  | .ret, e, m => some (.ret, e, m)
  | _, _, _ => none
def argEnv : List AV → Nat → Env
  | [], _ => []
  | a :: r, i => (i, .v a) :: argEnv r (i + 1)
def aResult (P : Program) (e : Env) (m : Mm) : ResultVar → Option AV
  | .tmp t => valOf (eget e t)
  | .cell a t => (isAggT P t).bind fun g => (szT P t).bind fun n => aLoad g n m (eget e a)
def aResults (P : Program) (e : Env) (m : Mm) : List ResultVar → Option (List AV)
  | [] => some []
  | r :: rs => (aResult P e m r).bind fun v => (aResults P e m rs).map (v :: ·)
def oneOrTup : List AV → AV
  | [v] => v
  | vs => .tup vs
/-- How the function that defers stands: it returns (none), or panics with a value, recovered or not. -/
abbrev Mode := Option (AV × Bool)
def isRecover : Op → Bool
  | .call c => (match c.callee with | .builtin .recover => c.args.toList.isEmpty | _ => false)
  | _ => false
/-- A deferred function's operations: as others, and recover. -/
def evalOpsS (P : Program) (rec : Rec) (fls : List (Nat × Flag)) (ops : Array Oper) : List (Oper × Nat) → Env → Mm → Mode → Option (Ex × Env × Mm × Mode)
  | [], e, m, u => some (.normal, e, m, u)
  | (o, i) :: r, e, m, u =>
    (awanted ops e o).bind fun
      | false => evalOpsS P rec fls ops r (eput e o.dst (.v (.tup []))) m u
      | true =>
        if isRecover o.op then
          (match u with
          | some (v, false) => evalOpsS P rec fls ops r (eput e o.dst (.v v)) m (some (v, true))
          | u => evalOpsS P rec fls ops r (eput e o.dst (.v (.sc .nilIface))) m u)
        else (evalOp P rec (aget fls i) (opd e) m o).bind fun
          | .val v m' => evalOpsS P rec fls ops r (eput (dropFor (aget fls i) e) o.dst v) m' u
          | .pan v m' => some (.pan v, e, m', u)
noncomputable def evalCodeS (P : Program) (A : FuncId → FAnn) (rec : Rec) (K : FuncId) : Code → Env → Mm → Mode → Option (Ex × Env × Mm × Mode)
  | .region id ops false, e, m, u =>
    (evalOpsS P rec ((aget (A K).flags id).getD []) ops ops.toList.zipIdx e m u).map fun
      | (.normal, e', m', u') => (.normal, cutBy (A K).lives id e', m', u')
      | r => r
  | .seq a b, e, m, u => (evalCodeS P A rec K a e m u).bind fun
      | (.normal, e', m', u') => evalCodeS P A rec K b e' m' u'
      | r => some r
  | .cond c a b, e, m, u => (opv (opd e) c).bind fun v => (boolv v).bind fun t => if t then evalCodeS P A rec K a e m u else evalCodeS P A rec K b e m u
  | c, e, m, u => (evalCode P A rec K c e m).map fun r => (r.1, r.2.1, r.2.2, u)
/-- Behind a deferred function: what was recovered is over. -/
def settled : Mode → Mode
  | some (_, true) => none
  | u => u
/-- The deferred calls, one behind the other. -/
noncomputable def runDefers (P : Program) (A : FuncId → FAnn) (rec : Rec) : List AV → Heap → Mode → Option (Heap × Mode)
  | [], h, u => some (h, u)
  | .fn K args captured :: r, h, u =>
    (P.funcs[K]?).bind fun fn => fn.body.bind fun c => if fn.name == "runtime.NumGoroutine" then none else
      (evalCodeS P A rec K c (argEnv (args ++ captured) 0) ⟨[], h, []⟩ u).bind fun x =>
        match x.1, x.2.2.1.dfs, fn.results.toList with
        | .normal, [], [] => runDefers P A rec r x.2.2.1.hp (settled x.2.2.2)
        | .ret, [], [] => runDefers P A rec r x.2.2.1.hp (settled x.2.2.2)
        | _, _, _ => none
  | _, _, _ => none
noncomputable def finish (P : Program) (A : FuncId → FAnn) (rec : Rec) (fn : Func) (x : Ex × Env × Mm) : Option TR :=
  (match x.1 with
    | .normal => some none
    | .ret => some none
    | .pan v => some (some (v, false))
    | .exit _ => none).bind fun u =>
  (runDefers P A rec x.2.2.dfs x.2.2.hp u).bind fun y =>
    match y.2 with
    | none => (aResults P x.2.1 { x.2.2 with hp := y.1 } fn.results.toList).map fun vs => .call (.ret (oneOrTup vs)) y.1
    | some (v, false) => some (.call (.pan v) y.1)
    | some (_, true) => none
noncomputable def step (P : Program) (A : FuncId → FAnn) (rec : Rec) : Task → Option TR
  | .call K args h => (P.funcs[K]?).bind fun fn => fn.body.bind fun c => if fn.name == "runtime.NumGoroutine" then none else (evalCode P A rec K c (argEnv args 0) ⟨[], h, []⟩).bind fun x => finish P A rec fn x
  | .loop K c s => (evalCode P A rec K c s.env s.mm).bind fun
    | (.normal, e, m) => rec (.loop K c ⟨(cutLoop (A K) c e m).1, (cutLoop (A K) c e m).2⟩)
    | (x, e, m) => some (.loop x ⟨e, m⟩)
noncomputable def runN (P : Program) (A : FuncId → FAnn) : Nat → Task → Option TR
  | 0, _ => none
  | n + 1, t => step P A (runN P A n) t
end Go.Ai
