/- An evaluator of the program over states of which some values are told, and that what it says the program does. -/
import Derived.Orders
import Derived.KernelRfl
import Derived.Laws.Rows
import Derived.Laws.Append
import Derived.Laws.StructEq
import Derived.Laws.Tables
set_option linter.unusedVariables false
namespace Go.Ab

/-- Data that lies in memory nobody writes: a value of one cell that says all by itself; a slice, its elements' cells. -/
inductive T where
  | sc (v : Value)
  | sl (sz : Nat) (es : List (List T))

/-- A value as the evaluator holds it. -/
inductive V where
  | tr (t : T)
  | ptr (i j o : Nat)
  | ep (cs : List T)
  | row (i j n c : Nat)
  | fn (f : FuncId) (a b : List V)
  | mth (name : String) (r : V)
  | mp (i : Nat)
  | it (i : Nat)
  | ifc (t : TypeId) (v : V)
  | agg (cs : List V)
  | tup (vs : List V)
  | dead

abbrev sc (v : Value) : V := .tr (.sc v)
abbrev iv (n : Int) : V := .tr (.sc (.int .i64 n))
abbrev bv (b : Bool) : V := .tr (.sc (.bool b))
abbrev sv (s : ByteArray) : V := .tr (.sc (.string s))
abbrev nilS : V := .tr (.sc (.slice none 0 0))
abbrev uv : V := .tr (.sc (.tuple #[]))

/-- A block of memory that the evaluator may write. -/
inductive B where
  | cells (t : TypeId) (es : List (List V)) (ex : Bool)
  | map (es : List (Value × V × Nat)) (clock : Nat)
  | str (s : ByteArray) (pos : Nat)
  | gone

abbrev H := List B

def V.cells : V → List V
  | .agg cs => cs
  | v => [v]

def ofVal : Value → V
  | .agg cs => .agg (cs.toList.map sc)
  | v => sc v

def V.one : V → Bool
  | .tr (.sc v) => v.oneCell'
  | .tr (.sl _ _) => true
  | .agg _ => false
  | .tup _ => false
  | .dead => false
  | _ => true

/-- A value whose cells are just its own. -/
def V.flat : V → Bool
  | .agg _ => true
  | v => v.one

inductive TD where
  | bool | int (k : IntKind) | str | ptr (e : TypeId) | slice (e : TypeId) | arr (n : Nat) (e : TypeId)
  | struct (fs : List (Nat × Nat × Bool)) | map (k e : TypeId) | func | iface | other

/-- The cells of a type of which '==' is that of its cells, one by one: what each holds. -/
inductive LK where
  | b | s | i (k : IntKind)

structure TI where
  d : TD
  size : Nat
  bytes : Nat
  zero : List V
  eqk : Option (List LK)
  zv : V

def aggD : TypeDesc → Bool
  | .struct _ => true
  | .array _ _ => true
  | _ => false

def aggT (P : Program) (t : TypeId) : Bool := ((P.underlying t).map aggD).getD false
def szT (P : Program) (t : TypeId) : Nat := ((P.info? t).map (·.size)).getD 0

def tdOf (P : Program) : TypeDesc → TD
  | .bool => .bool
  | .int k => .int k
  | .string => .str
  | .pointer e => .ptr e
  | .slice e => .slice e
  | .array n e => .arr n e
  | .struct fs => .struct (fs.toList.map fun f => (f.offset, szT P f.type, aggT P f.type))
  | .map k e => .map k e
  | .func _ _ _ => .func
  | .interface _ => .iface
  | _ => .other

def contig (P : Program) : Nat → List Field → Option Nat
  | acc, [] => some acc
  | acc, f :: fs => if f.offset = acc then contig P (acc + szT P f.type) fs else none

/-- The leaves of a type, cell by cell, where '==' goes by them. -/
def leaves (P : Program) : Nat → TypeId → Option (List LK)
  | 0, _ => none
  | n + 1, t =>
    match P.underlying t with
    | some .bool => if szT P t = 1 then some [.b] else none
    | some (.int k) => if szT P t = 1 then some [.i k] else none
    | some .string => if szT P t = 1 then some [.s] else none
    | some (.struct fs) => if (P.info? t).isSome = true ∧ P.stoodInHeld t = false ∧ contig P 0 fs.toList = some (szT P t) then leafF (leaves P n) fs.toList else none
    | some (.array m e) => if (P.info? t).isSome = true ∧ szT P t = m * szT P e then (leaves P n e).map fun l => (List.replicate m l).flatten else none
    | _ => none
where
  leafF (f : TypeId → Option (List LK)) : List Field → Option (List LK)
    | [] => some []
    | x :: xs => if x.name = "_" then none else (f x.type).bind fun a => (leafF f xs).map fun b => a ++ b

def okD (P : Program) : TypeDesc → Bool
  | .struct fs => fs.toList.all fun f => (P.info? f.type).isSome && (P.underlying f.type).isSome
  | _ => true

def tyI (P : Program) (t : TypeId) : Option TI :=
  match P.info? t, P.underlying t with
  | some i, some d =>
    match i.zero with
    | some z => if okD P d = false then none else some { d := tdOf P d, size := i.size, bytes := i.bytes, zero := (ofVal z).cells, eqk := if P.eqGuardType P.depth t = false ∧ aggT P t = true then leaves P 20 t else none, zv := ofVal z }
    | none => none
  | _, _ => none

def TD.agg : TD → Bool
  | .arr _ _ => true
  | .struct _ => true
  | _ => false

/-! ### memory -/
def getB (h : H) (i : Nat) : Option (TypeId × List (List V) × Bool) :=
  match h[i]? with
  | some (.cells t es ex) => some (t, es, ex)
  | _ => none

def setL {α : Type} : List α → Nat → List α → List α
  | e, _, [] => e
  | e, o, v :: vs => setL (e.set o v) (o + 1) vs

def partV (agg : Bool) (sz : Nat) (cs : List V) (o : Nat) : Option V :=
  if agg then (if o + sz ≤ cs.length then some (.agg ((cs.drop o).take sz)) else none) else cs[o]?

def loadE (P : Program) (t : TypeId) (a : V) (h : H) : Option V :=
  (tyI P t).bind fun ti =>
  match a with
  | .ptr i j o => (getB h i).bind fun b => (b.2.1[j]?).bind fun e => partV ti.d.agg ti.size e o
  | .ep cs => partV ti.d.agg ti.size (cs.map .tr) 0
  | _ => none

def storeE (P : Program) (t : TypeId) (a v : V) (h : H) : Option H :=
  (tyI P t).bind fun ti =>
  match a with
  | .ptr i j o => (getB h i).bind fun b => (b.2.1[j]?).bind fun e =>
    if v.cells.length = ti.size ∧ o + v.cells.length ≤ e.length ∧ v.cells.all V.one = true then
      some (h.set i (.cells b.1 (b.2.1.set j (setL e o v.cells)) b.2.2))
    else none
  | _ => none

/-! ### what a value refers to; renaming -/
mutual
def refs : V → List Nat
  | .tr _ => []
  | .ptr i _ _ => [i]
  | .ep _ => []
  | .row i _ _ _ => [i]
  | .fn _ a b => refsL a ++ refsL b
  | .mth _ r => refs r
  | .mp i => [i]
  | .it i => [i]
  | .ifc _ v => refs v
  | .agg cs => refsL cs
  | .tup vs => refsL vs
  | .dead => []
def refsL : List V → List Nat
  | [] => []
  | v :: vs => refs v ++ refsL vs
end

def refsB : B → List Nat
  | .cells _ es _ => es.flatMap refsL
  | .map es _ => es.flatMap fun e => refs e.2.1
  | _ => []

/-- What is reached: in the order in which it is met. -/
def reach (h : H) : Nat → List Nat → List Nat → List Nat
  | 0, acc, _ => acc
  | _ + 1, acc, [] => acc
  | n + 1, acc, i :: rest => if i ∈ acc then reach h n acc rest else reach h n (acc ++ [i]) (rest ++ ((h[i]?).map refsB).getD [])

mutual
def ren (f : Nat → Nat) : V → V
  | .tr t => .tr t
  | .ptr i j o => .ptr (f i) j o
  | .ep cs => .ep cs
  | .row i j n c => .row (f i) j n c
  | .fn g a b => .fn g (renL f a) (renL f b)
  | .mth m r => .mth m (ren f r)
  | .mp i => .mp (f i)
  | .it i => .it (f i)
  | .ifc t v => .ifc t (ren f v)
  | .agg cs => .agg (renL f cs)
  | .tup vs => .tup (renL f vs)
  | .dead => .dead
def renL (f : Nat → Nat) : List V → List V
  | [] => []
  | v :: vs => ren f v :: renL f vs
end

def renB (f : Nat → Nat) : B → B
  | .cells t es ex => .cells t (es.map (renL f)) ex
  | .map es c => .map (es.map fun e => (e.1, ren f e.2.1, e.2.2)) c
  | .str s p => .str s p
  | .gone => .gone

def place (ids : List Nat) (i : Nat) : Nat := ids.idxOf i
/-- Are all references of a value, of blocks, among these? -/
def inV (ids : List Nat) (v : V) : Bool := (refs v).all (ids.contains ·)
def inB (ids : List Nat) (b : B) : Bool := (refsB b).all (ids.contains ·)

def sub (h : H) (ids : List Nat) : H := ids.map fun i => renB (place ids) ((h[i]?).getD .gone)

def putAll : H → List Nat → H → H
  | h, i :: ids, b :: bs => putAll (h.set i b) ids bs
  | h, _, _ => h

/-- The name outside of what a callee calls k. -/
def outer (h : H) (ids : List Nat) (k : Nat) : Nat := match ids[k]? with | some i => i | none => h.length + (k - ids.length)

def B.there : B → Bool
  | .gone => false
  | _ => true

abbrev Orc := FuncId → List V → H → Option (V × H)

def callE (O : Orc) (K : FuncId) (args : List V) (h : H) : Option (V × H) :=
  let ids := reach h 400 [] (refsL args)
  if args.all (inV ids) && ids.all (fun i => inB ids ((h[i]?).getD .gone) && B.there ((h[i]?).getD .gone)) then
    (O K (renL (place ids) args) (sub h ids)).bind fun r =>
      let f := outer h ids
      if ids.length ≤ r.2.length then
        some (ren f r.1, putAll h ids ((r.2.take ids.length).map (renB f)) ++ (r.2.drop ids.length).map (renB f))
      else none
  else none

/-- What is left behind a call: the blocks that it got, and what is reached. -/
def gcE (m : Nat) (v : V) (h : H) : Option (V × H) :=
  let ids := reach h 400 [] (List.range m ++ refs v)
  if inV ids v && ids.all (fun i => inB ids ((h[i]?).getD .gone) && decide (i < h.length)) && ids.take m == List.range m then
    some (ren (place ids) v, sub h ids)
  else none

/-! ### operations on values -/
def binI (op : BinOp) (k : IntKind) (a b : Int) : Option Value :=
  match op with
  | .add => some (.int k (k.wrap (a + b)))
  | .sub => some (.int k (k.wrap (a - b)))
  | .mul => some (.int k (k.wrap (a * b)))
  | .quo => if b = 0 then none else some (.int k (k.wrap (a.tdiv b)))
  | .rem => if b = 0 then none else some (.int k (a.tmod b))
  | .and => some (.int k (Go.bits .and k a b))
  | .or => some (.int k (Go.bits .or k a b))
  | .xor => some (.int k (Go.bits .xor k a b))
  | .eql => some (.bool (a == b))
  | .neq => some (.bool (a != b))
  | .lss => some (.bool (a < b))
  | .leq => some (.bool (a ≤ b))
  | .gtr => some (.bool (a > b))
  | .geq => some (.bool (a ≥ b))
  | _ => none

def shI (op : BinOp) (k : IntKind) (a b : Int) : Option Value :=
  if b < 0 then none else
  match op with
  | .shl => some (.int k (k.wrap (a * 2 ^ (min b.toNat k.bits))))
  | .shr => some (.int k (a.fdiv (2 ^ (min b.toNat k.bits))))
  | _ => none

def strS (op : BinOp) (a b : ByteArray) : Option Value :=
  match op with
  | .add => if a.size + b.size ≤ 9223372036854775807 then some (.string (a ++ b)) else none
  | .eql => some (.bool (a.toList == b.toList))
  | .neq => some (.bool (!(a.toList == b.toList)))
  | _ => none

def isShift : BinOp → Bool
  | .shl => true
  | .shr => true
  | _ => false

def eqS : LK → Value → Value → Option Bool
  | .i j, .int k a, .int k' b => if k = j ∧ k' = j then some (a == b) else none
  | .b, .bool a, .bool b => some (a == b)
  | .s, .string a, .string b => some (a.toList == b.toList)
  | _, _, _ => none

def eqL : List LK → List V → List V → Option Bool
  | [], [], [] => some true
  | l :: ls, .tr (.sc a) :: xs, .tr (.sc b) :: ys => (eqS l a b).bind fun t => (eqL ls xs ys).map fun u => t && u
  | _, _, _ => none

def isNil : V → Bool
  | .tr (.sc (.pointer none)) => true
  | .tr (.sc .nilFunc) => true
  | .tr (.sc .nilIface) => true
  | .tr (.sc (.slice none 0 0)) => true
  | .tr (.sc (.map none)) => true
  | _ => false

/-- Is a value surely not nil, of this type? -/
def notNil : TD → V → Bool
  | .ptr _, .ptr _ _ _ => true
  | .ptr _, .ep _ => true
  | .func, .fn _ _ _ => true
  | .func, .mth _ _ => true
  | .iface, .ifc _ _ => true
  | .slice _, .row _ _ _ c => decide (0 < c)
  | .slice _, .tr (.sl _ (_ :: _)) => true
  | .map _ _, .mp _ => true
  | _, _ => false

def nilOf : TD → V → Bool
  | .ptr _, .tr (.sc (.pointer none)) => true
  | .func, .tr (.sc .nilFunc) => true
  | .iface, .tr (.sc .nilIface) => true
  | .slice _, .tr (.sc (.slice none 0 0)) => true
  | .map _ _, .tr (.sc (.map none)) => true
  | _, _ => false

def eqNeq (op : BinOp) (b : Bool) : Option V :=
  match op with
  | .eql => some (bv b)
  | .neq => some (bv (!b))
  | _ => none

def binE (P : Program) (op : BinOp) (t : TypeId) (x y : V) : Option V :=
  match x, y with
  | .tr (.sc (.int k a)), .tr (.sc (.int k' b)) => if isShift op then (shI op k a b).map sc else if k = k' then (binI op k a b).map sc else none
  | .tr (.sc (.string a)), .tr (.sc (.string b)) => (strS op a b).map sc
  | .tr (.sc (.bool a)), .tr (.sc (.bool b)) => (tyI P t).bind fun ti => match ti.d with | .bool => eqNeq op (a == b) | _ => none
  | .agg xs, .agg ys => (tyI P t).bind fun ti => ti.eqk.bind fun l => (eqL l xs ys).bind (eqNeq op)
  | x, y => (tyI P t).bind fun ti => if nilOf ti.d y then (if nilOf ti.d x then none else if notNil ti.d x then eqNeq op false else none) else none

def unE (op : UnOp) (x : V) : Option V :=
  match op, x with
  | .not, .tr (.sc (.bool b)) => some (bv (!b))
  | .neg, .tr (.sc (.int k n)) => some (sc (.int k (k.wrap (0 - n))))
  | _, _ => none

def convE (P : Program) (dst : TypeId) (x : V) : Option V :=
  (tyI P dst).bind fun ti =>
  match ti.d, x with
  | .int k, .tr (.sc (.int _ n)) => some (sc (.int k (k.wrap n)))
  | .str, .tr (.sc (.string s)) => some (sv s)
  | _, _ => none

def asB : V → Option Bool
  | .tr (.sc (.bool b)) => some b
  | _ => none
def asI : V → Option Int
  | .tr (.sc (.int _ n)) => some n
  | _ => none

def idxE (P : Program) (t : TypeId) (x i : V) (h : H) : Option V :=
  (asI i).bind fun n => (tyI P t).bind fun ti =>
  match ti.d, x with
  | .arr len e, .ptr b j o => (tyI P e).bind fun te => if 0 ≤ n ∧ n < len then some (.ptr b j (o + n.toNat * te.size)) else none
  | .arr len e, .ep cs => (tyI P e).bind fun te => if 0 ≤ n ∧ n < len then some (.ep (cs.drop (n.toNat * te.size))) else none
  | .slice e, .row b j m _ => (tyI P e).bind fun te => (getB h b).bind fun q => (tyI P q.1).bind fun tq =>
      if te.size = tq.size ∧ 0 ≤ n ∧ n < m then some (.ptr b (j + n.toNat) 0) else none
  | .slice e, .tr (.sl sz es) => (tyI P e).bind fun te => if te.size = sz ∧ 0 ≤ n then (es[n.toNat]?).map .ep else none
  | _, _ => none

def ixE (P : Program) (t : TypeId) (x i : V) : Option V :=
  (asI i).bind fun n => (tyI P t).bind fun ti =>
  match ti.d, x with
  | .arr len e, .agg cs => (tyI P e).bind fun te => if 0 ≤ n ∧ n < len then partV te.d.agg te.size cs (n.toNat * te.size) else none
  | .str, .tr (.sc (.string s)) => if 0 ≤ n then (s[n.toNat]?).map fun b => sc (.int .u8 b.toNat) else none
  | _, _ => none

def fldAE (P : Program) (t : TypeId) (x : V) (f : Nat) : Option V :=
  (tyI P t).bind fun ti =>
  match ti.d, x with
  | .struct fs, .ptr b j o => (fs[f]?).bind fun p => if p.2.1 = 0 then none else some (.ptr b j (o + p.1))
  | .struct fs, .ep cs => (fs[f]?).bind fun p => if p.2.1 = 0 then none else some (.ep (cs.drop p.1))
  | _, _ => none

def fldE (P : Program) (t : TypeId) (x : V) (f : Nat) : Option V :=
  (tyI P t).bind fun ti =>
  match ti.d, x with
  | .struct fs, .agg cs => (fs[f]?).bind fun p => partV p.2.2 p.2.1 cs p.1
  | _, _ => none

/-- Parts laid over zero cells. -/
def fillE (pl : Nat → Option (Nat × Nat)) : List V → List (Nat × V) → Option (List V)
  | cells, [] => some cells
  | cells, (i, v) :: rest => (pl i).bind fun p =>
    if v.flat = true ∧ v.cells.length = p.2 ∧ p.1 + v.cells.length ≤ cells.length then fillE pl (setL cells p.1 v.cells) rest else none

def buildE (P : Program) (t : TypeId) (parts : List (Nat × V)) : Option V :=
  (tyI P t).bind fun ti =>
  match ti.d with
  | .struct fs => (fillE (fun i => (fs[i]?).map fun p => (p.1, p.2.1)) ti.zero parts).map .agg
  | .arr _ e => (tyI P e).bind fun te => (fillE (fun i => some (i * te.size, te.size)) ti.zero parts).map .agg
  | _ => none

def chunk (sz : Nat) : Nat → List V → List (List V)
  | 0, _ => []
  | n + 1, l => l.take sz :: chunk sz n (l.drop sz)

def setE : List (List V) → List (Nat × V) → Option (List (List V))
  | es, [] => some es
  | es, (i, v) :: rest => (es[i]?).bind fun e => if v.flat = true ∧ v.cells.length = e.length then setE (es.set i v.cells) rest else none

def bslE (P : Program) (t : TypeId) (len : Nat) (parts : List (Nat × V)) (h : H) : Option (V × H) :=
  (tyI P t).bind fun ti =>
  match ti.d with
  | .slice e => (tyI P e).bind fun te =>
    if te.zero.length = te.size ∧ len * te.size ≤ 16777216 then
      (setE (List.replicate len te.zero) parts).map fun es => (.row h.length 0 len len, h ++ [.cells e es true])
    else none
  | _ => none

def mkSlE (P : Program) (t : TypeId) (l c : V) (h : H) : Option (V × H) :=
  (asI l).bind fun n => (asI c).bind fun m => (tyI P t).bind fun ti =>
  match ti.d with
  | .slice e => (tyI P e).bind fun te =>
    if te.zero.length = te.size ∧ 0 ≤ n ∧ n ≤ m ∧ m * te.bytes ≤ 140737488355328 ∧ m ≤ 9223372036854775807 then
      some (.row h.length 0 n.toNat m.toNat, h ++ [.cells e (List.replicate m.toNat te.zero) true])
    else none
  | _ => none

def bndE (d : Int) : Option V → Option Int
  | none => some d
  | some v => asI v

def slcE (P : Program) (t : TypeId) (x : V) (lo hi : Option V) (h : H) : Option V :=
  (tyI P t).bind fun ti =>
  match ti.d, x with
  | .slice e, .row b j n c => (tyI P e).bind fun te => (getB h b).bind fun q => (tyI P q.1).bind fun tq =>
      (bndE 0 lo).bind fun l => (bndE n hi).bind fun u =>
      if te.size = tq.size ∧ 0 ≤ l ∧ l ≤ u ∧ u ≤ n then some (.row b (j + l.toNat) (u - l).toNat (c - l.toNat)) else none
  | .slice e, .tr (.sl sz es) => (tyI P e).bind fun te => (bndE 0 lo).bind fun l => (bndE es.length hi).bind fun u =>
      if te.size = sz ∧ 0 ≤ l ∧ l ≤ u ∧ u ≤ es.length then some (.tr (.sl sz ((es.drop l.toNat).take (u - l).toNat))) else none
  | .slice e, .tr (.sc (.slice none 0 0)) => (tyI P e).bind fun te => (bndE 0 lo).bind fun l => (bndE 0 hi).bind fun u => if l = 0 ∧ u = 0 then some nilS else none
  | .str, .tr (.sc (.string s)) => (bndE 0 lo).bind fun l => (bndE s.size hi).bind fun u =>
      if 0 ≤ l ∧ l ≤ u ∧ u ≤ s.size then some (sv (s.extract l.toNat u.toNat)) else none
  | _, _ => none

/-- The elements of a slice value. -/
def elemsE (h : H) : V → Option (List (List V))
  | .tr (.sc (.slice none 0 0)) => some []
  | .tr (.sl _ es) => some (es.map fun e => e.map .tr)
  | .row b j n _ => (getB h b).bind fun q => if j + n ≤ q.2.1.length then some ((q.2.1.drop j).take n) else none
  | _ => none

def appE (P : Program) (t : TypeId) (t2 : TypeId) (s x : V) (h : H) : Option (V × H) :=
  (tyI P t).bind fun ti => (tyI P t2).bind fun t2i =>
  match ti.d, t2i.d with
  | .slice e, .slice _ => (tyI P e).bind fun te => (elemsE h x).bind fun ys =>
    if te.zero.length = te.size ∧ 0 < te.size ∧ ys.all (fun y => y.length == te.size && y.all V.one) = true then
      match s with
      | .tr (.sc (.slice none 0 0)) =>
        if ys.length = 0 then some (nilS, h)
        else if ys.length * te.bytes ≤ 140737488355328 ∧ ys.length ≤ 9223372036854775807 then some (.row h.length 0 ys.length ys.length, h ++ [.cells e ys false]) else none
      | .row b j n c => (getB h b).bind fun q =>
        if q.1 = e ∧ j + n ≤ q.2.1.length then
          if n + ys.length ≤ c ∧ j + n + ys.length ≤ q.2.1.length then
            some (.row b j (n + ys.length) c, h.set b (.cells q.1 (setL q.2.1 (j + n) ys) q.2.2))
          else if j = 0 ∧ q.2.1.length ≤ n + ys.length ∧ (n + ys.length) * te.bytes ≤ 140737488355328 ∧ n + ys.length ≤ 9223372036854775807 then
            some (.row h.length 0 (n + ys.length) (n + ys.length), h.set b .gone ++ [.cells e (q.2.1.take n ++ ys) false])
          else none
        else none
      | _ => none
    else none
  | _, _ => none

def lenE (P : Program) (t : TypeId) (x : V) (h : H) : Option V :=
  (tyI P t).bind fun ti =>
  match ti.d, x with
  | .str, .tr (.sc (.string s)) => some (iv s.size)
  | .arr n _, _ => some (iv n)
  | .slice _, .row _ _ n _ => some (iv n)
  | .slice _, .tr (.sl _ es) => some (iv es.length)
  | .slice _, .tr (.sc (.slice none 0 0)) => some (iv 0)
  | .map _ _, .tr (.sc (.map none)) => some (iv 0)
  | .map _ _, .mp i => match h[i]? with | some (.map es _) => some (iv es.length) | _ => none
  | _, _ => none

def mm2 (mx : Bool) : Value → Value → Option Value
  | .int k x, .int _ y => some (.int k (if mx then (if y > x then y else x) else (if y < x then y else x)))
  | _, _ => none
def mmL (mx : Bool) : Value → List V → Option Value
  | v, [] => some v
  | v, .tr (.sc u) :: r => (mm2 mx v u).bind fun w => mmL mx w r
  | _, _ => none
def mmE (mx : Bool) : List V → Option V
  | .tr (.sc v) :: r => (mmL mx v r).map sc
  | _ => none

/-! ### maps -/
def keyS : TD → Value → Value → Option Bool
  | .int _, .int k a, .int k' b => if k = k' then some (a == b) else none
  | .str, .string a, .string b => some (a == b)
  | .bool, .bool a, .bool b => some (a == b)
  | _, _, _ => none

def findE (d : TD) (k : Value) : List (Value × V × Nat) → Nat → Option (Option (Nat × V))
  | [], _ => some none
  | e :: es, i => match keyS d k e.1 with
    | some true => some (some (i, e.2.1))
    | some false => findE d k es (i + 1)
    | none => none

def mapOf (h : H) : V → Option (List (Value × V × Nat))
  | .tr (.sc (.map none)) => some []
  | .mp i => match h[i]? with | some (.map es _) => some es | _ => none
  | _ => none

def zeroE (ti : TI) : V := ti.zv
/-- The entries of a map lie in no order that counts: a key is looked up where all keys can be told from it, and at most one is it. -/
def findK (d : TD) (k : Value) (es : List (Value × V × Nat)) : Option (Option (Nat × V)) :=
  if keyS d k k = some true ∧ es.all (fun e => (keyS d k e.1).isSome) = true ∧ es.countP (fun e => keyS d k e.1 == some true) ≤ 1 then findE d k es 0 else none

def lkpE (P : Program) (t : TypeId) (m k : V) (ok : Bool) (h : H) : Option V :=
  (tyI P t).bind fun ti =>
  match ti.d, k with
  | .map kt et, .tr (.sc kv) => (tyI P kt).bind fun tk => (tyI P et).bind fun te => (mapOf h m).bind fun es => (findK tk.d kv es).map fun r =>
    match r with
    | some p => if ok then .tup [p.2, bv true] else p.2
    | none => if ok then .tup [zeroE te, bv false] else zeroE te
  | _, _ => none

def updE (P : Program) (t : TypeId) (m k x : V) (h : H) : Option H :=
  (tyI P t).bind fun ti =>
  match ti.d, m, k with
  | .map kt _, .mp i, .tr (.sc kv) => (tyI P kt).bind fun tk =>
    match h[i]? with
    | some (.map es c) => (findK tk.d kv es).map fun r =>
      match r with
      | some p => h.set i (.map (es.modify p.1 fun e => (kv, x, e.2.2)) c)
      | none => h.set i (.map (es ++ [(kv, x, c + 1)]) (c + 1))
    | _ => none
  | _, _, _ => none

def delE (P : Program) (t : TypeId) (m k : V) (h : H) : Option H :=
  (tyI P t).bind fun ti =>
  match ti.d, m, k with
  | .map kt _, .mp i, .tr (.sc kv) => (tyI P kt).bind fun tk =>
    match h[i]? with
    | some (.map es c) => (findK tk.d kv es).map fun r =>
      match r with
      | some p => h.set i (.map (es.eraseIdx p.1) c)
      | none => h
    | _ => none
  | _, _, _ => none

/-- An entry for a key that is not there: its stamp is known (the number laid by is one more; 0: not known). -/
def entE (P : Program) (t : TypeId) (m k : V) (h : H) : Option (V × H) :=
  (tyI P t).bind fun ti =>
  match ti.d, m, k with
  | .map kt et, .mp i, .tr (.sc kv) => (tyI P kt).bind fun tk => (tyI P et).bind fun te =>
    match h[i]? with
    | some (.map es c) => (findK tk.d kv es).bind fun r =>
      match r with
      | some _ => none
      | none => some (.tup [zeroE te, iv c], h.set i (.map (es ++ [(kv, zeroE te, c + 1)]) (c + 1)))
    | _ => none
  | _, _, _ => none

def estE (m st x : V) (h : H) : Option H :=
  (asI st).bind fun b =>
  match m with
  | .mp i =>
    match h[i]? with
    | some (.map es c) => (es.findIdx? fun e => (e.2.2 : Int) == b + 1).bind fun k => (es[k]?).bind fun e => if 0 < e.2.2 then some (h.set i (.map (es.set k (e.1, x, e.2.2)) c)) else none
    | _ => none
  | _ => none

/-! ### methods, calls -/
def ptrD : TypeDesc → Bool
  | .pointer _ => true
  | _ => false

def mthI (P : Program) (t : TypeId) (name : String) : Option FuncId :=
  (P.info? t).bind fun i => (i.methods.find? (·.name == name)).bind fun m =>
    if m.path.isEmpty = true then m.func.bind fun f => (P.underlying t).bind fun d => if ptrD d = f.2 then some f.1 else none else none

def callArgs (P : Program) (f : V) (args : List V) : Option (FuncId × List V) :=
  match f with
  | .fn K a b => some (K, a ++ args ++ b)
  | .mth name (.ifc t v) => (mthI P t name).map fun K => (K, v :: args)
  | _ => none

def calls (P : Program) (O : Orc) (f : V) (args : List V) (h : H) : Option (V × H) := (callArgs P f args).bind fun c => callE O c.1 c.2 h

def isIface (P : Program) (t : TypeId) : Bool := match P.underlying t with | some (.interface _) => true | none => true | _ => false

def opE (P : Program) (O : Orc) (o : Oper) (ρ : Operand → V) (h : H) : Option (V × H) :=
  match o.op with
  | .move x => some (ρ x, h)
  | .assign x => some (ρ x, h)
  | .pick c a b => (asB (ρ c)).map fun t => (if t then ρ a else ρ b, h)
  | .alloc t => (tyI P t).bind fun ti => if ti.zero.length = ti.size then some (.ptr h.length 0 0, h ++ [.cells t [ti.zero] true]) else none
  | .box t x => (tyI P t).bind fun ti => if (ρ x).flat = true ∧ (ρ x).cells.length = ti.size then some (.ptr h.length 0 0, h ++ [.cells t [(ρ x).cells] true]) else none
  | .build t parts => (buildE P t (parts.toList.map fun p => (p.1, ρ p.2))).map (·, h)
  | .buildSlice t n parts => bslE P t n (parts.toList.map fun p => (p.1, ρ p.2)) h
  | .insert t m k x => (updE P t (ρ m) (ρ k) (ρ x) h).map (uv, ·)
  | .mapUpdate t m k x => (updE P t (ρ m) (ρ k) (ρ x) h).map (uv, ·)
  | .mapEntry t m k => entE P t (ρ m) (ρ k) h
  | .entryStore _ m st x => (estE (ρ m) (ρ st) (ρ x) h).map (uv, ·)
  | .load t x => (loadE P t (ρ x) h).map (·, h)
  | .store t x y => (storeE P t (ρ x) (ρ y) h).map (uv, ·)
  | .nilCheck x =>
    match ρ x with
    | .ptr i j k => some (.ptr i j k, h)
    | .ep cs => some (.ep cs, h)
    | .ifc t v => some (.ifc t v, h)
    | .fn f a b => some (.fn f a b, h)
    | .mth name (.ifc t v) => (mthI P t name).map fun _ => (.mth name (.ifc t v), h)
    | _ => none
  | .binOp op t x y _ => (binE P op t (ρ x) (ρ y)).map (·, h)
  | .unOp op _ x => (unE op (ρ x)).map (·, h)
  | .convert s d x => if (P.underlying s).isSome = true then (convE P d (ρ x)).map (·, h) else none
  | .makeInterface t x => if isIface P t then none else some (.ifc t (ρ x), h)
  | .makeFunc (.func f) a b => some (.fn f (a.toList.map ρ) (b.toList.map ρ), h)
  | .makeFunc (.method name) a b => match a.toList.map ρ, b.toList with | [r], [] => some (.mth name r, h) | _, _ => none
  | .makeMap _ none => some (.mp h.length, h ++ [.map [] 0])
  | .makeSlice t l c => mkSlE P t (ρ l) (ρ c) h
  | .slice t x lo hi none => (slcE P t (ρ x) (lo.map ρ) (hi.map ρ) h).map (·, h)
  | .fieldAddr t x f => (fldAE P t (ρ x) f).map (·, h)
  | .field t x f => (fldE P t (ρ x) f).map (·, h)
  | .indexAddr t x i => (idxE P t (ρ x) (ρ i) h).map (·, h)
  | .index t x i => (ixE P t (ρ x) (ρ i)).map (·, h)
  | .lookup t m k ok => (lkpE P t (ρ m) (ρ k) ok h).map (·, h)
  | .range t x => (tyI P t).bind fun ti => match ti.d, ρ x with
    | .str, .tr (.sc (.string s)) => some (.it h.length, h ++ [.str s 0])
    | _, _ => none
  | .next x true => match ρ x with
    | .it i => match h[i]? with
      | some (.str s p) => if p < s.size then some (.tup [bv true, iv p, sc (.int .i32 (Utf8.decode s p).1)], h.set i (.str s (p + (Utf8.decode s p).2))) else some (.tup [bv false], h)
      | _ => none
    | _ => none
  | .extract x i => match ρ x with
    | .tup vs => (vs[i]?).map (·, h)
    | _ => none
  | .call { callee := .value f, args, .. } => calls P O (ρ f) (args.toList.map ρ) h
  | .call { callee := .invoke r name, args, .. } => calls P O (.mth name (ρ r)) (args.toList.map ρ) h
  | .call { callee := .builtin .len, args, argTypes } => match args.toList, argTypes.toList with
    | [x], [t] => (lenE P t (ρ x) h).map (·, h)
    | _, _ => none
  | .call { callee := .builtin .append, args, argTypes } => match args.toList, argTypes.toList with
    | [s, x], [t, u] => appE P t u (ρ s) (ρ x) h
    | _, _ => none
  | .call { callee := .builtin .min, args, .. } => (mmE false (args.toList.map ρ)).map (·, h)
  | .call { callee := .builtin .max, args, .. } => (mmE true (args.toList.map ρ)).map (·, h)
  | .call { callee := .builtin .delete, args, argTypes } => match args.toList, argTypes.toList with
    | m :: k :: _, t :: _ => (delE P t (ρ m) (ρ k) h).map (.tup [], ·)
    | _, _ => none
  | _ => none

/-! ### code -/
inductive Ex where
  | normal | exit (id : Nat) | ret
  deriving DecidableEq

structure St where
  tm : List V
  h : H

def St.ev (s : St) : Operand → V
  | .tmp t => s.tm.getD t uv
  | .const v => ofVal v
  | .func f => .fn f [] []
  | .global _ => .dead

def St.put (s : St) (d : Option Tmp) (v : V) (h : H) : St :=
  match d with
  | some t => ⟨s.tm.set t v, h⟩
  | none => ⟨s.tm, h⟩

/-- Is an operation wanted? none: that can't be told. -/
def wantE (ops : Array Oper) (o : Oper) (tm : List V) : Option Bool :=
  match o.guard with
  | none => some true
  | some (j, want) =>
    match (ops[j]?).bind (·.dst) with
    | none => some false
    | some t =>
      match tm[t]? with
      | some (.tr (.sc (.bool b))) => some (b == want)
      | some (.tr (.sc (.tuple _))) => some false
      | none => some false
      | _ => none

def stepE (P : Program) (O : Orc) (ops : Array Oper) (o : Oper) (s : St) : Option St :=
  (wantE ops o s.tm).bind fun w =>
    if w then (opE P O o s.ev s.h).map fun r => s.put o.dst r.1 r.2 else some (s.put o.dst uv s.h)

def runE (P : Program) (O : Orc) (ops : Array Oper) : List Oper → St → Option St
  | [], s => some s
  | o :: rest, s => (stepE P O ops o s).bind (runE P O ops rest)

def iter : Nat → (St → Option (Ex × St)) → St → Option (Ex × St)
  | 0, _, _ => none
  | n + 1, f, s => (f s).bind fun r => match r.1 with | .normal => iter n f r.2 | _ => some r

end Go.Ab
