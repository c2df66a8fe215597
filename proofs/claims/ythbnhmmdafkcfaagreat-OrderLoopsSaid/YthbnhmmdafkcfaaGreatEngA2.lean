/- An evaluator of the program over states of which some values are told, and that what it says the program does. -/
import Derived.Test.YthbnhmmdafkcfaaGreatEngA1
import Derived.Orders
set_option linter.unusedVariables false
namespace Go.Ab

/-! ### a region whose order is open -/
inductive Foot where
  | no
  | typ (i : Nat)
  | blk (i : Nat)
  | cell (i j o n : Nat)

def Foot.hits : Foot → Foot → Bool
  | .no, _ => false
  | _, .no => false
  | .typ i, .blk k => i == k
  | .typ _, _ => false
  | .blk i, .blk k => i == k
  | .blk i, .cell k _ _ _ => i == k
  | .cell i _ _ _, .blk k => i == k
  | .cell i j o n, .cell i' j' o' n' => i == i' && j == j' && !(decide (o + n < o') || decide (o' + n' < o))
  | _, .typ _ => false

def Foot.inH (h : H) : Foot → Bool
  | .no => true
  | .typ i => decide (i < h.length)
  | .blk i => decide (i < h.length)
  | .cell i _ _ _ => decide (i < h.length)

def loud (o : Oper) : Bool :=
  match o.op with
  | .alloc _ | .box _ _ | .buildSlice _ _ _ | .insert _ _ _ _ | .mapUpdate _ _ _ _ | .mapEntry _ _ _ | .entryStore _ _ _ _ | .store _ _ _ | .makeMap _ _ | .makeSlice _ _ _ | .range _ _ | .next _ _ => true
  | .call { callee := .builtin .len, .. } => false
  | .call { callee := .builtin .min, .. } => false
  | .call { callee := .builtin .max, .. } => false
  | .call _ => true
  | _ => false

def rdF (P : Program) (o : Oper) (ρ : Operand → V) : Foot :=
  match o.op with
  | .load t x => match ρ x with | .ptr i j k => .cell i j k (szT P t - 1) | _ => .no
  | .lookup _ m _ _ => match ρ m with | .mp i => .blk i | _ => .no
  | .indexAddr _ x _ => match ρ x with | .row i _ _ _ => .typ i | _ => .no
  | .slice _ x _ _ _ => match ρ x with | .row i _ _ _ => .typ i | _ => .no
  | .call { callee := .builtin .len, args, .. } => match args.toList.map ρ with | [.mp i] => .blk i | _ => .no
  | _ => .no

def modF (P : Program) (o : Oper) (ρ : Operand → V) (h : H) : List Foot :=
  match o.op with
  | .store t x _ => match ρ x with | .ptr i j k => [.cell i j k (szT P t - 1)] | _ => []
  | .insert _ m _ _ => match ρ m with | .mp i => [.blk i] | _ => []
  | .mapUpdate _ m _ _ => match ρ m with | .mp i => [.blk i] | _ => []
  | .mapEntry _ m _ => match ρ m with | .mp i => [.blk i] | _ => []
  | .entryStore _ m _ _ => match ρ m with | .mp i => [.blk i] | _ => []
  | .next x _ => match ρ x with | .it i => [.blk i] | _ => []
  | .call { callee := .value f, args, .. } => match callArgs P (ρ f) (args.toList.map ρ) with | some c => (reach h 400 [] (refsL c.2)).map .blk | none => []
  | .call { callee := .invoke r name, args, .. } => match callArgs P (.mth name (ρ r)) (args.toList.map ρ) with | some c => (reach h 400 [] (refsL c.2)).map .blk | none => []
  | .call { callee := .builtin _, args, .. } => match args.toList.map ρ with | .row i _ _ _ :: _ => [.blk i] | .mp i :: _ => [.blk i] | _ => []
  | _ => []

/-- What each operation waits for, in bits. -/
def befs : List Oper → List Nat → List Nat
  | [], acc => acc
  | o :: r, acc => befs r (acc ++ [o.after.toList.foldl (fun s e => if Region.binds .any e then s ||| 2 ^ e.on ||| acc.getD e.on 0 else s) 0])

def waits (bs : List Nat) (i k : Nat) : Bool := (bs.getD k 0).testBit i

def pairOk (ops : Array Oper) (x y : Oper) : Bool := !(loud x && loud y) && Oper.apart ops x y

def drawOk (ops : Array Oper) : Bool :=
  let bs := befs ops.toList []
  let l := ops.toList.zipIdx
  l.all fun p =>
    p.1.after.all (fun e => !Region.binds .any e || decide (e.on < p.2)) &&
    l.all fun q => !decide (q.2 < p.2) || waits bs q.2 p.2 || pairOk ops q.1 p.1

/-- Run in the text's order, what is open being told apart by what is read and written. -/
def drawE (P : Program) (O : Orc) (ops : Array Oper) (bs : List Nat) : List Oper → Nat → List (Nat × Foot) → List (Nat × Foot) → St → Option St
  | [], _, _, _, s => some s
  | o :: rest, k, rs, ms, s =>
    (wantE ops o s.tm).bind fun w =>
    if w then
      let r := rdF P o s.ev
      let m := modF P o s.ev s.h
      if Foot.inH s.h r && rs.all (fun q => waits bs q.1 k || m.all (fun f => !q.2.hits f)) && ms.all (fun q => waits bs q.1 k || !r.hits q.2) then
        (opE P O o s.ev s.h).bind fun x => drawE P O ops bs rest (k + 1) (rs ++ [(k, r)]) (ms ++ m.map fun f => (k, f)) (s.put o.dst x.1 x.2)
      else none
    else drawE P O ops bs rest (k + 1) rs ms (s.put o.dst uv s.h)

/-! ### a region whose order is open, by all its ways: states that are equal but for their names meet -/
def eqVal : Value → Value → Bool
  | .int k a, .int k' b => decide (k = k') && decide (a = b)
  | .bool a, .bool b => decide (a = b)
  | .string a, .string b => decide (a = b)
  | .pointer none, .pointer none => true
  | .slice none 0 0, .slice none 0 0 => true
  | .map none, .map none => true
  | .nilFunc, .nilFunc => true
  | .nilIface, .nilIface => true
  | .tuple a, .tuple b => a.isEmpty && b.isEmpty
  | _, _ => false

def eqT : T → T → Bool
  | .sc a, .sc b => eqVal a b
  | _, _ => false

def eqTs : List T → List T → Bool
  | [], [] => true
  | a :: l, b :: m => eqT a b && eqTs l m
  | _, _ => false

mutual
def eqV : V → V → Bool
  | .tr a, .tr b => eqT a b
  | .ptr i j o, .ptr i' j' o' => decide (i = i') && decide (j = j') && decide (o = o')
  | .ep a, .ep b => eqTs a b
  | .row i j n c, .row i' j' n' c' => decide (i = i') && decide (j = j') && decide (n = n') && decide (c = c')
  | .fn f a b, .fn f' a' b' => decide (f = f') && eqVs a a' && eqVs b b'
  | .mth m r, .mth m' r' => decide (m = m') && eqV r r'
  | .mp i, .mp i' => decide (i = i')
  | .it i, .it i' => decide (i = i')
  | .ifc t v, .ifc t' v' => decide (t = t') && eqV v v'
  | .agg a, .agg b => eqVs a b
  | .tup a, .tup b => eqVs a b
  | .dead, .dead => true
  | _, _ => false
def eqVs : List V → List V → Bool
  | [], [] => true
  | a :: l, b :: m => eqV a b && eqVs l m
  | _, _ => false
end

def eqVss : List (List V) → List (List V) → Bool
  | [], [] => true
  | a :: l, b :: m => eqVs a b && eqVss l m
  | _, _ => false

def eqEs : List (Value × V × Nat) → List (Value × V × Nat) → Bool
  | [], [] => true
  | a :: l, b :: m => eqVal a.1 b.1 && eqV a.2.1 b.2.1 && decide (a.2.2 = b.2.2) && eqEs l m
  | _, _ => false

def eqB : B → B → Bool
  | .cells t e x, .cells t' e' x' => decide (t = t') && eqVss e e' && decide (x = x')
  | .map e c, .map e' c' => eqEs e e' && decide (c = c')
  | .gone, .gone => true
  | _, _ => false

def eqH : H → H → Bool
  | [], [] => true
  | a :: l, b :: m => eqB a b && eqH l m
  | _, _ => false

def eqSt (s s' : St) : Bool := eqVs s.tm s'.tm && eqH s.h s'.h

def keyLt : Value → Value → Bool
  | .int _ a, .int _ b => decide (a < b)
  | _, _ => false

def insM (x : Value × V × Nat) : List (Value × V × Nat) → List (Value × V × Nat)
  | [] => [x]
  | y :: l => if keyLt x.1 y.1 then x :: y :: l else y :: insM x l

def sortM : List (Value × V × Nat) → List (Value × V × Nat)
  | [] => []
  | x :: l => insM x (sortM l)

def sortB : B → B
  | .map es c => .map (sortM (es.map fun e => (e.1, e.2.1, 0))) c
  | b => b

/-- A state with names of its own for what is new, and its maps in the order of their keys. -/
def canonS (m : Nat) (s : St) : Option St :=
  (gcE m (.tup s.tm) (s.h.map sortB)).bind fun r => match r.1 with | .tup tm => some ⟨tm, r.2⟩ | _ => none

def addS (l : List (Array Bool × St)) (x : Array Bool × St) : Option (List (Array Bool × St)) :=
  match l.find? fun y => decide (y.1 = x.1) with
  | some y => if eqSt y.2 x.2 then some l else none
  | none => some (l ++ [x])

def ndOne (P : Program) (O : Orc) (ops : Array Oper) (m : Nat) (L : Array Bool) (s : St) : List Nat → List (Array Bool × St) → Option (List (Array Bool × St))
  | [], acc => some acc
  | i :: rest, acc => (ops[i]?).bind fun o => (stepE P O ops o s).bind fun s1 => (canonS m s1).bind fun s2 => (addS acc (L.setIfInBounds i true, s2)).bind (ndOne P O ops m L s rest)

def ndLevel (P : Program) (O : Orc) (ops : Array Oper) (m : Nat) : List (Array Bool × St) → List (Array Bool × St) → Option (List (Array Bool × St))
  | [], acc => some acc
  | x :: rest, acc => if (Region.ready .any ops x.1).isEmpty then none else (ndOne P O ops m x.1 x.2 (Region.ready .any ops x.1) acc).bind (ndLevel P O ops m rest)

def ndRun (P : Program) (O : Orc) (ops : Array Oper) (m : Nat) : Nat → List (Array Bool × St) → Option St
  | 0, [x] => if (Region.ready .any ops x.1).isEmpty then some x.2 else none
  | 0, _ => none
  | n + 1, l => (ndLevel P O ops m l []).bind (ndRun P O ops m n)

def ndE (P : Program) (O : Orc) (ops : Array Oper) (s : St) : Option St := ndRun P O ops s.h.length ops.size [(Array.replicate ops.size false, s)]

def regE (P : Program) (O : Orc) (ops : Array Oper) (draw : Bool) (s : St) : Option St :=
  if draw then (if drawOk ops then drawE P O ops (befs ops.toList []) ops.toList 0 [] [] s else ndE P O ops s)
  else runE P O ops ops.toList s

/-! ### code -/
abbrev Lp := (St → Option (Ex × St)) → St → Option (Ex × St)

def evC (P : Program) (O : Orc) (L : Lp) : Code → St → Option (Ex × St)
  | .skip, s => some (.normal, s)
  | .region _ ops draw, s => (regE P O ops draw s).map fun s => (.normal, s)
  | .seq a b, s => (evC P O L a s).bind fun r => match r.1 with | .normal => evC P O L b r.2 | _ => some r
  | .cond c a b, s => (asB (s.ev c)).bind fun t => if t then evC P O L a s else evC P O L b s
  | .block id a, s => (evC P O L a s).map fun r => (if r.1 = .exit id then .normal else r.1, r.2)
  | .loop a, s => L (evC P O L a) s
  | .exit id, s => some (.exit id, s)
  | .ret, s => some (.ret, s)
  | _, _ => none

def res1 (P : Program) (s : St) : ResultVar → Option V
  | .tmp t => some (s.tm.getD t uv)
  | .cell a t => loadE P t (s.tm.getD a uv) s.h

def resL (P : Program) (s : St) : List ResultVar → Option (List V)
  | [] => some []
  | r :: rs => (res1 P s r).bind fun v => (resL P s rs).map (v :: ·)

def resE (P : Program) (s : St) (rs : List ResultVar) : Option V :=
  (resL P s rs).map fun vs => match vs with | [v] => v | vs => .tup vs

def evB (P : Program) (O : Orc) (L : Lp) (c : Code) (n : Nat) (rs : List ResultVar) (args : List V) (h : H) : Option (V × H) :=
  (evC P O L c ⟨args ++ List.replicate (n - args.length) uv, h⟩).bind fun r =>
    match r.1 with
    | .exit _ => none
    | _ => (resE P r.2 rs).bind fun v => gcE h.length v r.2.h

def evF (P : Program) (O : Orc) (L : Lp) (K : FuncId) (args : List V) (h : H) : Option (V × H) :=
  (P.funcs[K]?).bind fun f => f.body.bind fun c => if f.name == "runtime.NumGoroutine" then none else evB P O L c f.ntmps f.results.toList args h

def evN (P : Program) (X : Orc) : Nat → Orc
  | 0 => X
  | n + 1 => fun K args h => match X K args h with | some r => some r | none => evF P (evN P X n) (iter n) K args h

/-! ### the limit -/
open Classical in
noncomputable def lim {α : Type} (f : Nat → Option α) : Option α := if h : ∃ a, ∃ n, ∀ m, n ≤ m → f m = some a then some h.choose else none

theorem lim_eq {α : Type} {f : Nat → Option α} {a : α} (h : ∃ n, ∀ m, n ≤ m → f m = some a) : lim f = some a := by
  have hx : ∃ a, ∃ n, ∀ m, n ≤ m → f m = some a := ⟨a, h⟩
  unfold lim
  rw [dif_pos hx]
  obtain ⟨n, hn⟩ := h
  obtain ⟨m, hm⟩ := hx.choose_spec
  have h1 := hn (max n m) (Nat.le_max_left ..)
  have h2 := hm (max n m) (Nat.le_max_right ..)
  rw [h1] at h2
  injection h2 with h2
  rw [← h2]

theorem lim_spec {α : Type} {f : Nat → Option α} {a : α} (h : lim f = some a) : ∃ n, ∀ m, n ≤ m → f m = some a := by
  unfold lim at h
  split at h
  · rename_i hx
    injection h with h
    rw [← h]
    exact hx.choose_spec
  · cases h

/-- What a call comes to. -/
noncomputable def E (P : Program) (X : Orc) : Orc := fun K args h => lim fun n => evN P X n K args h
/-- What a loop comes to. -/
noncomputable def loopE : Lp := fun f s => lim fun n => iter n f s

theorem iter_mono {f : St → Option (Ex × St)} {r : Ex × St} : ∀ (n : Nat) (s : St), iter n f s = some r → ∀ m, n ≤ m → iter m f s = some r := by
  intro n
  induction n with
  | zero => intro s h; simp [iter] at h
  | succ n ih =>
    intro s h m hm
    obtain ⟨m, rfl⟩ : ∃ k, m = k + 1 := ⟨m - 1, by omega⟩
    simp only [iter] at h ⊢
    cases hf : f s with
    | none => rw [hf] at h; simp at h
    | some x =>
      rw [hf] at h
      simp only [Option.bind_some] at h ⊢
      obtain ⟨ex, s'⟩ := x
      cases ex with
      | normal => exact ih _ h _ (by omega)
      | exit id => exact h
      | ret => exact h

theorem loopE_of {f : St → Option (Ex × St)} {s : St} {r : Ex × St} (n : Nat) (h : iter n f s = some r) : loopE f s = some r := lim_eq ⟨n, iter_mono n s h⟩

theorem loopE_spec {f : St → Option (Ex × St)} {s : St} {r : Ex × St} (h : loopE f s = some r) : ∃ n, iter n f s = some r := by
  obtain ⟨n, hn⟩ := lim_spec h
  exact ⟨n, hn n (Nat.le_refl _)⟩

/-- One round. -/
theorem loopE_round {f : St → Option (Ex × St)} {s s' : St} {r : Ex × St} (h : f s = some (.normal, s')) (h' : loopE f s' = some r) : loopE f s = some r := by
  obtain ⟨n, hn⟩ := loopE_spec h'
  exact loopE_of (n + 1) (by simp only [iter, h, Option.bind_some]; exact hn)

theorem loopE_exit {f : St → Option (Ex × St)} {s s' : St} {ex : Ex} (h : f s = some (ex, s')) (hx : ex ≠ .normal) : loopE f s = some (ex, s') :=
  loopE_of 1 (by simp only [iter, h, Option.bind_some])

end Go.Ab
