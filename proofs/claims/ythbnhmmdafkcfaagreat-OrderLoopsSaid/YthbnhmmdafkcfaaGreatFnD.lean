/- What single functions of the program and of the reference answer, for the inputs that OrderLoops hands them. -/
import Derived.Test.YthbnhmmdafkcfaaGreatFnC
import Derived.Test.YthbnhmmdafkcfaaGreatEngG
import Derived.Test.YthbnhmmdafkcfaaGreatEngH
set_option linter.unusedVariables false
set_option linter.unusedSimpArgs false
namespace Go.Ab
open Go.Proofs
set_option maxRecDepth 100000

/-! ### the reference: what a dialect is like; a memory with nothing in it -/
def q1 : List V := [sv ⟨#[102, 111, 117, 114]⟩, iv 4, iv 32, iv 64, iv 49, iv 84, bv false, bv false, bv false, iv 1, iv 453, iv 3424, bv false, bv false, bv false, bv false, iv 5, bv true, iv 1, bv true, bv false, iv 1, bv true, bv false, bv false, bv true, bv false, bv false, bv false]
def q2 : List V := [sv ⟨#[115, 99, 114, 101, 97, 109]⟩, iv 16, iv 32, iv 64, iv 13, iv 108, bv false, bv true, bv false, iv 1, iv 64, iv 32767, bv false, bv false, bv false, bv false, iv 5, bv false, iv 0, bv false, bv false, iv 0, bv false, bv false, bv false, bv false, bv false, bv false, bv false]
def q3 : List V := [sv ⟨#[102, 97, 115, 116]⟩, iv 16, iv 32, iv 0, iv 1, iv 96, bv true, bv true, bv true, iv 0, iv 32, iv 65535, bv true, bv false, bv false, bv false, iv 6, bv true, iv 0, bv true, bv true, iv 1, bv false, bv true, bv true, bv true, bv true, bv true, bv false]
def q4 : List V := [sv ⟨#[105, 109, 112, 117, 108, 115, 101]⟩, iv 16, iv 32, iv 0, iv 1, iv 120, bv true, bv true, bv true, iv 0, iv 16, iv 65535, bv false, bv false, bv false, bv true, iv 6, bv false, iv 0, bv true, bv false, iv 2, bv false, bv true, bv false, bv false, bv false, bv true, bv false]
def q5 : List V := [sv ⟨#[99, 111, 109, 112, 111, 115, 101]⟩, iv 8, iv 32, iv 64, iv 13, iv 72, bv false, bv false, bv false, iv 2, iv 0, iv 0, bv false, bv true, bv false, bv false, iv 5, bv false, iv 2, bv false, bv false, iv 0, bv false, bv false, bv false, bv false, bv false, bv false, bv true]
def q6 : List V := [sv ⟨#[99, 104, 105, 112]⟩, iv 4, iv 32, iv 0, iv 13, iv 108, bv true, bv false, bv false, iv 1, iv 16, iv 65535, bv false, bv false, bv true, bv false, iv 5, bv true, iv 2, bv false, bv false, iv 0, bv false, bv true, bv false, bv false, bv false, bv true, bv false]

/-- What a dialect is like. -/
def X7 : Orc := fun K args h => if K = 7 then (match args, h with
  | [.tr (.sc (.int .i64 (.ofNat 1)))], [] => some (.tup [.agg q1, iv 0], [])
  | [.tr (.sc (.int .i64 (.ofNat 2)))], [] => some (.tup [.agg q2, iv 0], [])
  | [.tr (.sc (.int .i64 (.ofNat 3)))], [] => some (.tup [.agg q3, iv 0], [])
  | [.tr (.sc (.int .i64 (.ofNat 4)))], [] => some (.tup [.agg q4, iv 0], [])
  | [.tr (.sc (.int .i64 (.ofNat 5)))], [] => some (.tup [.agg q5, iv 0], [])
  | [.tr (.sc (.int .i64 (.ofNat 6)))], [] => some (.tup [.agg q6, iv 0], [])
  | _, _ => none) else none
def memZ : V := .agg (List.replicate 26 (iv 0))
/-- A memory with nothing in it may be one. -/
def X18 : Orc := fun K args h => if K = 18 then (match args, h with
  | [.agg [.tr (.sc (.int .i64 (.ofNat 0))), .tr (.sc (.int .i64 (.ofNat 0))), .tr (.sc (.int .i64 (.ofNat 0))), .tr (.sc (.int .i64 (.ofNat 0))), .tr (.sc (.int .i64 (.ofNat 0))), .tr (.sc (.int .i64 (.ofNat 0))), .tr (.sc (.int .i64 (.ofNat 0))), .tr (.sc (.int .i64 (.ofNat 0))), .tr (.sc (.int .i64 (.ofNat 0))), .tr (.sc (.int .i64 (.ofNat 0))), .tr (.sc (.int .i64 (.ofNat 0))), .tr (.sc (.int .i64 (.ofNat 0))), .tr (.sc (.int .i64 (.ofNat 0))), .tr (.sc (.int .i64 (.ofNat 0))), .tr (.sc (.int .i64 (.ofNat 0))), .tr (.sc (.int .i64 (.ofNat 0))), .tr (.sc (.int .i64 (.ofNat 0))), .tr (.sc (.int .i64 (.ofNat 0))), .tr (.sc (.int .i64 (.ofNat 0))), .tr (.sc (.int .i64 (.ofNat 0))), .tr (.sc (.int .i64 (.ofNat 0))), .tr (.sc (.int .i64 (.ofNat 0))), .tr (.sc (.int .i64 (.ofNat 0))), .tr (.sc (.int .i64 (.ofNat 0))), .tr (.sc (.int .i64 (.ofNat 0))), .tr (.sc (.int .i64 (.ofNat 0)))]], [] => some (bv true, [])
  | _, _ => none) else none

theorem E7 : Callable Tryz.prog 7 ∧ True := ⟨(evN_sound follows_mixed X1_sound 20 7 [iv 1] [] (.tup [.agg q1, iv 0]) [] (by kernel_rfl)).1, trivial⟩

theorem X7_sound : OSound Tryz.prog X7 := by
  intro K args h v h' he
  unfold X7 at he
  split at he
  · rename_i hK
    subst hK
    split at he
    all_goals first | (cases he; done) | (injection he with he; injection he with e1 e2; subst e1 e2; exact evN_sound follows_mixed X1_sound 20 _ _ _ _ _ (by kernel_rfl))
  · cases he

theorem X18_sound : OSound Tryz.prog X18 := by
  intro K args h v h' he
  unfold X18 at he
  split at he
  · rename_i hK
    subst hK
    split at he
    all_goals first | (cases he; done) | (injection he with he; injection he with e1 e2; subst e1 e2; exact evN_sound follows_mixed X1_sound 40 _ _ _ _ _ (by kernel_rfl))
  · cases he

end Go.Ab

set_option linter.unusedVariables false
set_option linter.unusedSimpArgs false
namespace Go.Ab
open Go.Proofs
set_option maxRecDepth 100000

/-! ### orchestrionlaw09.Effect: its rounds -/
def XR : Orc := orX (orX X1 X7) X18
theorem XR_sound : OSound Tryz.prog XR := orX_sound (orX_sound X1_sound X7_sound) X18_sound
/-- What cannot be told, where the parameter is not known. -/
def FF (h : Bool) : FuncId → Tmp → Bool := fun K t => match K with
  | 34 => t == 82
  | 41 => h && t == 9
  | 43 => [23, 27].contains t
  | 76 => t == 48
  | 78 => [17, 23, 36, 42].contains t
  | 79 => [20, 33].contains t
  | 81 => t == 8
  | 82 => [31, 43, 68, 80].contains t
  | 47 => t == 139
  | 5 => [17, 19, 1044].contains t
  | _ => false
noncomputable def b5 : Code := Tryz.f5.body.getD .skip
noncomputable def A5 : Code := sq1 (sq2 b5)
noncomputable def X50 : Code := inn (inn (sq2 A5))
noncomputable def Y50 : Code := inn (sq1 (sq2 X50))
noncomputable def X51 : Code := inn (inn (sq2 Y50))
def pZ (q : Nat) : Int := ((q + 1 : Nat) : Int)
def hZ (q : Nat) : Int := IntKind.i64.wrap ((pZ q).tdiv 16)
def lZ (q : Nat) : Int := (pZ q).tmod 16
/-- Before the round for a letter and a parameter. -/
def SI (d n x : Int) (q : Nat) : St := ⟨[iv d, .dead, .dead, .ptr 0 0 0, .ptr 1 0 0, bv false, iv n, iv (pZ q)] ++ List.replicate 39 .dead, [.cells 38 [[iv 34, iv x, iv 0]] true, .cells 34 [List.replicate 6 (iv 0)] true]⟩
/-- The effect is found. -/
def SR (n p : Int) : St := ⟨[.dead, .dead, .dead, .dead, .ptr 0 0 0, bv true] ++ List.replicate 41 .dead, [.cells 34 [[iv 0, iv 0, iv 0, iv 0, iv n, iv p]] true]⟩
def ksI : List Nat := [1, 2] ++ (List.range 39).map (· + 8)
def ksR : List Nat := [0, 1, 2, 3] ++ (List.range 41).map (· + 6)
def vb (b : Bool) : Value := .bool b
def vi (n : Int) : Value := .int .i64 n

theorem vb_eq {b c : Bool} (h : b = c) : vb b = vb c := by rw [h]
theorem vi_eq {b c : Int} (h : b = c) : vi b = vi c := by rw [h]
theorem hZ_eq {q : Nat} (hq : q < 255) : hZ q = (((q + 1) / 16 : Nat) : Int) := by
  unfold hZ pZ IntKind.wrap
  rw [show ((q + 1 : Nat) : Int).tdiv 16 = (((q + 1) / 16 : Nat) : Int) from rfl]
  simp [IntKind.bits, IntKind.signed]
  omega
theorem lZ_eq (q : Nat) : lZ q = (((q + 1) % 16 : Nat) : Int) := rfl
theorem le_eq {q : Nat} (hq : q < 255) : decide (pZ q ≤ 255) = true := by
  unfold pZ
  simp
  omega
theorem add_eq {q : Nat} (hq : q < 255) : IntKind.i64.wrap (pZ q + 1) = pZ (q + 1) := by
  unfold pZ IntKind.wrap
  simp [IntKind.bits, IntKind.signed]
  omega

/-- What a round must do. -/
def RoundOk (d n x : Int) (q : Nat) : Prop := ∀ {w0 : World} {Pr0 : Nat → Prop} {β0 : Bt} {Q : Exit → Act → World → Prop}, β0.length ≤ 0 → ∀ a w, Rel Tryz.prog w0 Pr0 β0 (SI d n x q) a w → X51.wp Tryz.prog (Exit.then (fun a' w' => Rel Tryz.prog w0 Pr0 β0 (SI d n x (q + 1)) a' w') Q) a w
def RoundHit (d n x : Int) (q : Nat) : Prop := ∀ {w0 : World} {Pr0 : Nat → Prop} {β0 : Bt} {Q : Exit → Act → World → Prop}, β0.length ≤ 0 → ∀ a w, Rel Tryz.prog w0 Pr0 β0 (SI d n x q) a w → (∀ a' w', Rel Tryz.prog w0 Pr0 β0 (SR n (pZ q)) a' w' → Q .ret a' w') → X51.wp Tryz.prog Q a w

theorem round_ok {d n x : Int} {q : Nat} {h : Bool} {ds : List Value} {rec : List (Value × Value)}
    (he : ((dC Tryz.prog (evN Tryz.prog XR 40) (dN Tryz.prog XR (FF h) 40) (FF h 5) (iterD 60) X51 (SI d n x q) (ds, [])).bind fun r => if r.1.1 = .normal then (coarseS 0 ksI (fun _ _ => true) r.1.2).map (·, r.2) else none) = some (SI d n x (q + 1), [], rec)) (hk : ok rec) : RoundOk d n x q :=
  fun hβ a w hr => evD_coarse follows_mixed XR_sound he hk hβ hr fun a' w' hr' => hr'
theorem round_hit {d n x : Int} {q : Nat} {h : Bool} {ds : List Value} {rec : List (Value × Value)}
    (he : ((dC Tryz.prog (evN Tryz.prog XR 40) (dN Tryz.prog XR (FF h) 40) (FF h 5) (iterD 60) X51 (SI d n x q) (ds, [])).bind fun r => if r.1.1 = .ret then (coarseS 0 ksR (fun _ _ => true) r.1.2).map (·, r.2) else none) = some (SR n (pZ q), [], rec)) (hk : ok rec) : RoundHit d n x q :=
  fun hβ a w hr hq => evD_coarse follows_mixed XR_sound he hk hβ hr hq

end Go.Ab
