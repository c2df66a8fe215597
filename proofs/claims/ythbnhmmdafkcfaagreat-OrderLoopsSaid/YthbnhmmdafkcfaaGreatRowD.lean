/- What gear.Row and the functions about a row answer on the song of the law. -/
import Derived.Test.YthbnhmmdafkcfaaGreatRowC
set_option linter.unusedVariables false
set_option linter.unusedSimpArgs false
namespace Go.Ab
open Go.Proofs
set_option maxRecDepth 100000

/-! ### gear.Row of a row without operations -/
def clockV (r lr lc : Int) : List V := [iv 0, iv r, iv 6, iv 125, iv lr] ++ List.replicate 15 (iv 0) ++ [iv lc] ++ List.replicate 15 (iv 0) ++ [bv false]
def rowH (d : Int) (lin : Bool) (pan : Int) (qs : List V) (op : V) (nn pp : Nat → Int) : H := [.cells 29 [songC d lin 3] true, .cells 49 [qs] true, .cells 55 [[op]] true] ++ restH pan 3 (CL nn pp)
def F33 : FuncId → Tmp → Bool := fun K t => K == 33 && [91, 93, 96].contains t
theorem row_1_lt {lr lc : Int} {r : Nat} {nn pp : Nat → Int} (hr : r < 63) : Callable Tryz.prog 17 ∧ Run Tryz.prog 17 [.ptr 0 0 0, .ptr 1 0 0, .agg (clockV (r : Int) lr lc), .row 2 0 1 1] (rowH 1 false 0 q1 nilS nn pp)
    (.tup [.agg (stepR r), .agg (clockV ((r + 1 : Nat) : Int) lr lc)]) (rowH 1 false 0 q1 nilS nn pp) :=
  run_of_vN X1_sound (cOne_sound args_nil) (F := F33) (n := 30) (ds := [(iv ((r + 1 : Nat) : Int), []), (bv true, []), (iv ((r + 1 : Nat) : Int), [])])
    (rec := [iv (IntKind.i64.wrap ((r : Int) + 1)) = iv ((r + 1 : Nat) : Int), bv (decide (((r + 1 : Nat) : Int) < 64)) = bv true, iv (IntKind.i64.wrap ((r : Int) + 1)) = iv ((r + 1 : Nat) : Int), [nilS] = [nilS] ∧ ([] : H) = []]) (by kernel_rfl)
    ⟨iv_eq (up_eq (by omega)), bv_eq (decide_eq_true (by omega)), iv_eq (up_eq (by omega)), ⟨rfl, rfl⟩, trivial⟩
theorem row_1_63 {lr lc : Int} {nn pp : Nat → Int} : Callable Tryz.prog 17 ∧ Run Tryz.prog 17 [.ptr 0 0 0, .ptr 1 0 0, .agg (clockV 63 lr lc), .row 2 0 1 1] (rowH 1 false 0 q1 nilS nn pp)
    (.tup [.agg (stepR 63), .agg (clockV 0 0 0)]) (rowH 1 false 0 q1 nilS nn pp) :=
  run_of_vN X1_sound (cOne_sound args_nil) (F := fun _ _ => false) (n := 30) (ds := []) (rec := [[nilS] = [nilS] ∧ ([] : H) = []]) (by kernel_rfl) ⟨⟨rfl, rfl⟩, trivial⟩
theorem row_2_lt {lr lc : Int} {r : Nat} {nn pp : Nat → Int} (hr : r < 63) : Callable Tryz.prog 17 ∧ Run Tryz.prog 17 [.ptr 0 0 0, .ptr 1 0 0, .agg (clockV (r : Int) lr lc), .row 2 0 1 1] (rowH 2 false 128 q2 nilS nn pp)
    (.tup [.agg (stepR r), .agg (clockV ((r + 1 : Nat) : Int) lr lc)]) (rowH 2 false 128 q2 nilS nn pp) :=
  run_of_vN X1_sound (cOne_sound args_nil) (F := F33) (n := 30) (ds := [(iv ((r + 1 : Nat) : Int), []), (bv true, []), (iv ((r + 1 : Nat) : Int), [])])
    (rec := [iv (IntKind.i64.wrap ((r : Int) + 1)) = iv ((r + 1 : Nat) : Int), bv (decide (((r + 1 : Nat) : Int) < 64)) = bv true, iv (IntKind.i64.wrap ((r : Int) + 1)) = iv ((r + 1 : Nat) : Int), [nilS] = [nilS] ∧ ([] : H) = []]) (by kernel_rfl)
    ⟨iv_eq (up_eq (by omega)), bv_eq (decide_eq_true (by omega)), iv_eq (up_eq (by omega)), ⟨rfl, rfl⟩, trivial⟩
theorem row_2_63 {lr lc : Int} {nn pp : Nat → Int} : Callable Tryz.prog 17 ∧ Run Tryz.prog 17 [.ptr 0 0 0, .ptr 1 0 0, .agg (clockV 63 lr lc), .row 2 0 1 1] (rowH 2 false 128 q2 nilS nn pp)
    (.tup [.agg (stepR 63), .agg (clockV 0 0 0)]) (rowH 2 false 128 q2 nilS nn pp) :=
  run_of_vN X1_sound (cOne_sound args_nil) (F := fun _ _ => false) (n := 30) (ds := []) (rec := [[nilS] = [nilS] ∧ ([] : H) = []]) (by kernel_rfl) ⟨⟨rfl, rfl⟩, trivial⟩
theorem row_3_lt {lr lc : Int} {r : Nat} {nn pp : Nat → Int} (hr : r < 63) : Callable Tryz.prog 17 ∧ Run Tryz.prog 17 [.ptr 0 0 0, .ptr 1 0 0, .agg (clockV (r : Int) lr lc), .row 2 0 1 1] (rowH 3 true 128 q3 nilS nn pp)
    (.tup [.agg (stepR r), .agg (clockV ((r + 1 : Nat) : Int) lr lc)]) (rowH 3 true 128 q3 nilS nn pp) :=
  run_of_vN X1_sound (cOne_sound args_nil) (F := F33) (n := 30) (ds := [(iv ((r + 1 : Nat) : Int), []), (bv true, []), (iv ((r + 1 : Nat) : Int), [])])
    (rec := [iv (IntKind.i64.wrap ((r : Int) + 1)) = iv ((r + 1 : Nat) : Int), bv (decide (((r + 1 : Nat) : Int) < 64)) = bv true, iv (IntKind.i64.wrap ((r : Int) + 1)) = iv ((r + 1 : Nat) : Int), [nilS] = [nilS] ∧ ([] : H) = []]) (by kernel_rfl)
    ⟨iv_eq (up_eq (by omega)), bv_eq (decide_eq_true (by omega)), iv_eq (up_eq (by omega)), ⟨rfl, rfl⟩, trivial⟩
theorem row_3_63 {lr lc : Int} {nn pp : Nat → Int} : Callable Tryz.prog 17 ∧ Run Tryz.prog 17 [.ptr 0 0 0, .ptr 1 0 0, .agg (clockV 63 lr lc), .row 2 0 1 1] (rowH 3 true 128 q3 nilS nn pp)
    (.tup [.agg (stepR 63), .agg (clockV 0 0 0)]) (rowH 3 true 128 q3 nilS nn pp) :=
  run_of_vN X1_sound (cOne_sound args_nil) (F := fun _ _ => false) (n := 30) (ds := []) (rec := [[nilS] = [nilS] ∧ ([] : H) = []]) (by kernel_rfl) ⟨⟨rfl, rfl⟩, trivial⟩
theorem row_4_lt {lr lc : Int} {r : Nat} {nn pp : Nat → Int} (hr : r < 63) : Callable Tryz.prog 17 ∧ Run Tryz.prog 17 [.ptr 0 0 0, .ptr 1 0 0, .agg (clockV (r : Int) lr lc), .row 2 0 1 1] (rowH 4 true 128 q4 nilS nn pp)
    (.tup [.agg (stepR r), .agg (clockV ((r + 1 : Nat) : Int) lr lc)]) (rowH 4 true 128 q4 nilS nn pp) :=
  run_of_vN X1_sound (cOne_sound args_nil) (F := F33) (n := 30) (ds := [(iv ((r + 1 : Nat) : Int), []), (bv true, []), (iv ((r + 1 : Nat) : Int), [])])
    (rec := [iv (IntKind.i64.wrap ((r : Int) + 1)) = iv ((r + 1 : Nat) : Int), bv (decide (((r + 1 : Nat) : Int) < 64)) = bv true, iv (IntKind.i64.wrap ((r : Int) + 1)) = iv ((r + 1 : Nat) : Int), [nilS] = [nilS] ∧ ([] : H) = []]) (by kernel_rfl)
    ⟨iv_eq (up_eq (by omega)), bv_eq (decide_eq_true (by omega)), iv_eq (up_eq (by omega)), ⟨rfl, rfl⟩, trivial⟩
theorem row_4_63 {lr lc : Int} {nn pp : Nat → Int} : Callable Tryz.prog 17 ∧ Run Tryz.prog 17 [.ptr 0 0 0, .ptr 1 0 0, .agg (clockV 63 lr lc), .row 2 0 1 1] (rowH 4 true 128 q4 nilS nn pp)
    (.tup [.agg (stepR 63), .agg (clockV 0 0 0)]) (rowH 4 true 128 q4 nilS nn pp) :=
  run_of_vN X1_sound (cOne_sound args_nil) (F := fun _ _ => false) (n := 30) (ds := []) (rec := [[nilS] = [nilS] ∧ ([] : H) = []]) (by kernel_rfl) ⟨⟨rfl, rfl⟩, trivial⟩
theorem row_6_lt {lr lc : Int} {r : Nat} {nn pp : Nat → Int} (hr : r < 63) : Callable Tryz.prog 17 ∧ Run Tryz.prog 17 [.ptr 0 0 0, .ptr 1 0 0, .agg (clockV (r : Int) lr lc), .row 2 0 1 1] (rowH 6 false 128 q6 nilS nn pp)
    (.tup [.agg (stepR r), .agg (clockV ((r + 1 : Nat) : Int) lr lc)]) (rowH 6 false 128 q6 nilS nn pp) :=
  run_of_vN X1_sound (cOne_sound args_nil) (F := F33) (n := 30) (ds := [(iv ((r + 1 : Nat) : Int), []), (bv true, []), (iv ((r + 1 : Nat) : Int), [])])
    (rec := [iv (IntKind.i64.wrap ((r : Int) + 1)) = iv ((r + 1 : Nat) : Int), bv (decide (((r + 1 : Nat) : Int) < 64)) = bv true, iv (IntKind.i64.wrap ((r : Int) + 1)) = iv ((r + 1 : Nat) : Int), [nilS] = [nilS] ∧ ([] : H) = []]) (by kernel_rfl)
    ⟨iv_eq (up_eq (by omega)), bv_eq (decide_eq_true (by omega)), iv_eq (up_eq (by omega)), ⟨rfl, rfl⟩, trivial⟩
theorem row_6_63 {lr lc : Int} {nn pp : Nat → Int} : Callable Tryz.prog 17 ∧ Run Tryz.prog 17 [.ptr 0 0 0, .ptr 1 0 0, .agg (clockV 63 lr lc), .row 2 0 1 1] (rowH 6 false 128 q6 nilS nn pp)
    (.tup [.agg (stepR 63), .agg (clockV 0 0 0)]) (rowH 6 false 128 q6 nilS nn pp) :=
  run_of_vN X1_sound (cOne_sound args_nil) (F := fun _ _ => false) (n := 30) (ds := []) (rec := [[nilS] = [nilS] ∧ ([] : H) = []]) (by kernel_rfl) ⟨⟨rfl, rfl⟩, trivial⟩
end Go.Ab
