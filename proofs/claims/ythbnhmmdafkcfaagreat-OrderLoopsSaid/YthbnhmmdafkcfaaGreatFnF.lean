/- What single functions of the program and of the reference answer, for the inputs that OrderLoops hands them. -/
import Derived.Test.YthbnhmmdafkcfaaGreatFnE
set_option linter.unusedVariables false
set_option linter.unusedSimpArgs false
namespace Go.Ab
open Go.Proofs
set_option maxRecDepth 100000

/-! ### orchestrionref07.Blank of one pattern -/
def songV (d : Int) (lin : Bool) : List V := [sv ⟨#[]⟩, iv d, iv 1, .row 0 0 1 1, iv 0, iv 6, iv 125, iv 128, bv lin, .row 1 0 1 1, .row 2 0 1 1, sc (.slice none 0 0), sc (.slice none 0 0)]
def blankH (pan : Int) (cs : List (List V)) : H := [.cells 3 [[iv 0]] false, .cells 3 [[iv pan]] false, .cells 41 [[iv 64, .row 3 0 64 64]] false, .cells 34 cs true]
def cells0 : List (List V) := List.replicate 64 (List.replicate 6 (iv 0))
def XB : Orc := orX X1 X7
theorem XB_sound : OSound Tryz.prog XB := orX_sound X1_sound X7_sound
def linOf (d : Int) : Bool := d == 3 || d == 4
def panOf (d : Int) : Int := if d == 1 then 0 else 128
theorem blank_1 : Callable Tryz.prog 4 ∧ Run Tryz.prog 4 [iv 1, iv 1, iv 1] [] (.tup [.agg (songV 1 (linOf 1)), iv 0]) (blankH (panOf 1) cells0) := evN_sound follows_mixed XB_sound 80 _ _ _ _ _ (by kernel_rfl)
theorem blank_2 : Callable Tryz.prog 4 ∧ Run Tryz.prog 4 [iv 2, iv 1, iv 1] [] (.tup [.agg (songV 2 (linOf 2)), iv 0]) (blankH (panOf 2) cells0) := evN_sound follows_mixed XB_sound 80 _ _ _ _ _ (by kernel_rfl)
theorem blank_3 : Callable Tryz.prog 4 ∧ Run Tryz.prog 4 [iv 3, iv 1, iv 1] [] (.tup [.agg (songV 3 (linOf 3)), iv 0]) (blankH (panOf 3) cells0) := evN_sound follows_mixed XB_sound 80 _ _ _ _ _ (by kernel_rfl)
theorem blank_4 : Callable Tryz.prog 4 ∧ Run Tryz.prog 4 [iv 4, iv 1, iv 1] [] (.tup [.agg (songV 4 (linOf 4)), iv 0]) (blankH (panOf 4) cells0) := evN_sound follows_mixed XB_sound 80 _ _ _ _ _ (by kernel_rfl)
theorem blank_5 : Callable Tryz.prog 4 ∧ Run Tryz.prog 4 [iv 5, iv 1, iv 1] [] (.tup [.agg (songV 5 (linOf 5)), iv 0]) (blankH (panOf 5) cells0) := evN_sound follows_mixed XB_sound 80 _ _ _ _ _ (by kernel_rfl)
theorem blank_6 : Callable Tryz.prog 4 ∧ Run Tryz.prog 4 [iv 6, iv 1, iv 1] [] (.tup [.agg (songV 6 (linOf 6)), iv 0]) (blankH (panOf 6) cells0) := evN_sound follows_mixed XB_sound 80 _ _ _ _ _ (by kernel_rfl)
end Go.Ab
