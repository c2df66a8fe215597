/- What orchestrionlaw09.Effect answers for one dialect, in parts. -/
import Derived.Test.YthbnhmmdafkcfaaGreatFnD
set_option linter.unusedVariables false
set_option linter.unusedSimpArgs false
namespace Go.Ab
open Go.Proofs
set_option maxRecDepth 100000
theorem st_5_1 {x : Int} {q : Nat} (hq5 : q < 255) : RoundOk 5 1 x q := by
  exact @round_ok 5 1 x q false [vb true, vb true, vb false, vi (pZ (q + 1))] [(vi (IntKind.i64.wrap (pZ q + 1)), vi (pZ (q + 1))), (vb false, vb false), (vb (decide (pZ q ≤ 255)), vb true), (vb (decide (pZ q ≤ 255)), vb true)] (by kernel_rfl) ⟨vi_eq (add_eq hq5), rfl, vb_eq (le_eq hq5), vb_eq (le_eq hq5), trivial⟩

theorem st_5_2 {x : Int} {q : Nat} (hq5 : q < 255) : RoundOk 5 2 x q := by
  exact @round_ok 5 2 x q false [vb true, vb true, vb false, vi (pZ (q + 1))] [(vi (IntKind.i64.wrap (pZ q + 1)), vi (pZ (q + 1))), (vb false, vb false), (vb (decide (pZ q ≤ 255)), vb true), (vb (decide (pZ q ≤ 255)), vb true)] (by kernel_rfl) ⟨vi_eq (add_eq hq5), rfl, vb_eq (le_eq hq5), vb_eq (le_eq hq5), trivial⟩

theorem st_5_3 {x : Int} {q : Nat} (hq5 : q < 255) : RoundOk 5 3 x q := by
  exact @round_ok 5 3 x q false [vb true, vb true, vb false, vi (pZ (q + 1))] [(vi (IntKind.i64.wrap (pZ q + 1)), vi (pZ (q + 1))), (vb false, vb false), (vb (decide (pZ q ≤ 255)), vb true), (vb (decide (pZ q ≤ 255)), vb true)] (by kernel_rfl) ⟨vi_eq (add_eq hq5), rfl, vb_eq (le_eq hq5), vb_eq (le_eq hq5), trivial⟩

theorem st_5_4 {x : Int} {q : Nat} (hq5 : q < 255) : RoundOk 5 4 x q := by
  exact @round_ok 5 4 x q false [vb true, vb true, vb false, vi (pZ (q + 1))] [(vi (IntKind.i64.wrap (pZ q + 1)), vi (pZ (q + 1))), (vb false, vb false), (vb (decide (pZ q ≤ 255)), vb true), (vb (decide (pZ q ≤ 255)), vb true)] (by kernel_rfl) ⟨vi_eq (add_eq hq5), rfl, vb_eq (le_eq hq5), vb_eq (le_eq hq5), trivial⟩

theorem st_5_5 {x : Int} {q : Nat} (hq5 : q < 255) : RoundOk 5 5 x q := by
  exact @round_ok 5 5 x q false [vb true, vb true, vb false, vi (pZ (q + 1))] [(vi (IntKind.i64.wrap (pZ q + 1)), vi (pZ (q + 1))), (vb false, vb false), (vb (decide (pZ q ≤ 255)), vb true), (vb (decide (pZ q ≤ 255)), vb true)] (by kernel_rfl) ⟨vi_eq (add_eq hq5), rfl, vb_eq (le_eq hq5), vb_eq (le_eq hq5), trivial⟩

theorem st_5_6 {x : Int} {q : Nat} (hq5 : q < 255) : RoundOk 5 6 x q := by
  exact @round_ok 5 6 x q false [vb true, vb true, vb false, vi (pZ (q + 1))] [(vi (IntKind.i64.wrap (pZ q + 1)), vi (pZ (q + 1))), (vb false, vb false), (vb (decide (pZ q ≤ 255)), vb true), (vb (decide (pZ q ≤ 255)), vb true)] (by kernel_rfl) ⟨vi_eq (add_eq hq5), rfl, vb_eq (le_eq hq5), vb_eq (le_eq hq5), trivial⟩

theorem st_5_7 {x : Int} {q : Nat} (hq5 : q < 255) : RoundOk 5 7 x q := by
  exact @round_ok 5 7 x q false [vb true, vb true, vb false, vi (pZ (q + 1))] [(vi (IntKind.i64.wrap (pZ q + 1)), vi (pZ (q + 1))), (vb false, vb false), (vb (decide (pZ q ≤ 255)), vb true), (vb (decide (pZ q ≤ 255)), vb true)] (by kernel_rfl) ⟨vi_eq (add_eq hq5), rfl, vb_eq (le_eq hq5), vb_eq (le_eq hq5), trivial⟩

theorem st_5_8 {x : Int} {q : Nat} (hq5 : q < 255) : RoundOk 5 8 x q := by
  exact @round_ok 5 8 x q false [vb true, vb true, vb false, vi (pZ (q + 1))] [(vi (IntKind.i64.wrap (pZ q + 1)), vi (pZ (q + 1))), (vb false, vb false), (vb (decide (pZ q ≤ 255)), vb true), (vb (decide (pZ q ≤ 255)), vb true)] (by kernel_rfl) ⟨vi_eq (add_eq hq5), rfl, vb_eq (le_eq hq5), vb_eq (le_eq hq5), trivial⟩

theorem st_5_9 {x : Int} {q : Nat} (hq5 : q < 255) : RoundOk 5 9 x q := by
  exact @round_ok 5 9 x q false [vb true, vb true, vb false, vi (pZ (q + 1))] [(vi (IntKind.i64.wrap (pZ q + 1)), vi (pZ (q + 1))), (vb false, vb false), (vb (decide (pZ q ≤ 255)), vb true), (vb (decide (pZ q ≤ 255)), vb true)] (by kernel_rfl) ⟨vi_eq (add_eq hq5), rfl, vb_eq (le_eq hq5), vb_eq (le_eq hq5), trivial⟩

theorem st_5_10 {x : Int} {q : Nat} (hq5 : q < 255) : RoundOk 5 10 x q := by
  exact @round_ok 5 10 x q false [vb true, vb true, vb false, vi (pZ (q + 1))] [(vi (IntKind.i64.wrap (pZ q + 1)), vi (pZ (q + 1))), (vb false, vb false), (vb (decide (pZ q ≤ 255)), vb true), (vb (decide (pZ q ≤ 255)), vb true)] (by kernel_rfl) ⟨vi_eq (add_eq hq5), rfl, vb_eq (le_eq hq5), vb_eq (le_eq hq5), trivial⟩

theorem st_5_11 {x : Int} {q : Nat} (hq5 : q < 255) : RoundOk 5 11 x q := by
  exact @round_ok 5 11 x q false [vb true, vb true, vb false, vi (pZ (q + 1))] [(vi (IntKind.i64.wrap (pZ q + 1)), vi (pZ (q + 1))), (vb false, vb false), (vb (decide (pZ q ≤ 255)), vb true), (vb (decide (pZ q ≤ 255)), vb true)] (by kernel_rfl) ⟨vi_eq (add_eq hq5), rfl, vb_eq (le_eq hq5), vb_eq (le_eq hq5), trivial⟩

theorem st_5_12 {x : Int} {q : Nat} (hq5 : q < 255) : RoundOk 5 12 x q := by
  exact @round_ok 5 12 x q false [vb true, vb true, vb false, vi (pZ (q + 1))] [(vi (IntKind.i64.wrap (pZ q + 1)), vi (pZ (q + 1))), (vb false, vb false), (vb (decide (pZ q ≤ 255)), vb true), (vb (decide (pZ q ≤ 255)), vb true)] (by kernel_rfl) ⟨vi_eq (add_eq hq5), rfl, vb_eq (le_eq hq5), vb_eq (le_eq hq5), trivial⟩

theorem st_5_13 {x : Int} {q : Nat} (hq5 : q < 255) : RoundOk 5 13 x q := by
  exact @round_ok 5 13 x q false [vb true, vb true, vb false, vi (pZ (q + 1))] [(vi (IntKind.i64.wrap (pZ q + 1)), vi (pZ (q + 1))), (vb false, vb false), (vb (decide (pZ q ≤ 255)), vb true), (vb (decide (pZ q ≤ 255)), vb true)] (by kernel_rfl) ⟨vi_eq (add_eq hq5), rfl, vb_eq (le_eq hq5), vb_eq (le_eq hq5), trivial⟩

theorem st_5_14 {x : Int} {q : Nat} (hq5 : q < 255) : RoundOk 5 14 x q := by
  exact @round_ok 5 14 x q false [vb true, vb true, vb false, vi (pZ (q + 1))] [(vi (IntKind.i64.wrap (pZ q + 1)), vi (pZ (q + 1))), (vb false, vb false), (vb (decide (pZ q ≤ 255)), vb true), (vb (decide (pZ q ≤ 255)), vb true)] (by kernel_rfl) ⟨vi_eq (add_eq hq5), rfl, vb_eq (le_eq hq5), vb_eq (le_eq hq5), trivial⟩

theorem st_5_15 {x : Int} {q : Nat} (hq5 : q < 255) : RoundOk 5 15 x q := by
  exact @round_ok 5 15 x q false [vb true, vb true, vb false, vi (pZ (q + 1))] [(vi (IntKind.i64.wrap (pZ q + 1)), vi (pZ (q + 1))), (vb false, vb false), (vb (decide (pZ q ≤ 255)), vb true), (vb (decide (pZ q ≤ 255)), vb true)] (by kernel_rfl) ⟨vi_eq (add_eq hq5), rfl, vb_eq (le_eq hq5), vb_eq (le_eq hq5), trivial⟩

theorem st_5_16 {x : Int} {q : Nat} (hq5 : q < 255) : RoundOk 5 16 x q := by
  exact @round_ok 5 16 x q false [vb true, vb true, vb false, vi (pZ (q + 1))] [(vi (IntKind.i64.wrap (pZ q + 1)), vi (pZ (q + 1))), (vb false, vb false), (vb (decide (pZ q ≤ 255)), vb true), (vb (decide (pZ q ≤ 255)), vb true)] (by kernel_rfl) ⟨vi_eq (add_eq hq5), rfl, vb_eq (le_eq hq5), vb_eq (le_eq hq5), trivial⟩

theorem st_5_17 {x : Int} {q : Nat} (hq5 : q < 255) : RoundOk 5 17 x q := by
  exact @round_ok 5 17 x q false [vb true, vb true, vb false, vi (pZ (q + 1))] [(vi (IntKind.i64.wrap (pZ q + 1)), vi (pZ (q + 1))), (vb false, vb false), (vb (decide (pZ q ≤ 255)), vb true), (vb (decide (pZ q ≤ 255)), vb true)] (by kernel_rfl) ⟨vi_eq (add_eq hq5), rfl, vb_eq (le_eq hq5), vb_eq (le_eq hq5), trivial⟩

theorem st_5_18 {x : Int} {q : Nat} (hq5 : q < 255) : RoundOk 5 18 x q := by
  exact @round_ok 5 18 x q false [vb true, vb true, vb false, vi (pZ (q + 1))] [(vi (IntKind.i64.wrap (pZ q + 1)), vi (pZ (q + 1))), (vb false, vb false), (vb (decide (pZ q ≤ 255)), vb true), (vb (decide (pZ q ≤ 255)), vb true)] (by kernel_rfl) ⟨vi_eq (add_eq hq5), rfl, vb_eq (le_eq hq5), vb_eq (le_eq hq5), trivial⟩

theorem st_5_19 {x : Int} {q : Nat} (hq5 : q < 255) : RoundOk 5 19 x q := by
  exact @round_ok 5 19 x q false [vb true, vb true, vb false, vi (pZ (q + 1))] [(vi (IntKind.i64.wrap (pZ q + 1)), vi (pZ (q + 1))), (vb false, vb false), (vb (decide (pZ q ≤ 255)), vb true), (vb (decide (pZ q ≤ 255)), vb true)] (by kernel_rfl) ⟨vi_eq (add_eq hq5), rfl, vb_eq (le_eq hq5), vb_eq (le_eq hq5), trivial⟩

theorem st_5_20 {x : Int} {q : Nat} (hq5 : q < 255) : RoundOk 5 20 x q := by
  exact @round_ok 5 20 x q false [vb true, vb true, vb false, vi (pZ (q + 1))] [(vi (IntKind.i64.wrap (pZ q + 1)), vi (pZ (q + 1))), (vb false, vb false), (vb (decide (pZ q ≤ 255)), vb true), (vb (decide (pZ q ≤ 255)), vb true)] (by kernel_rfl) ⟨vi_eq (add_eq hq5), rfl, vb_eq (le_eq hq5), vb_eq (le_eq hq5), trivial⟩

theorem st_5_21 {x : Int} {q : Nat} (hq5 : q < 255) : RoundOk 5 21 x q := by
  exact @round_ok 5 21 x q false [vb true, vb true, vb false, vi (pZ (q + 1))] [(vi (IntKind.i64.wrap (pZ q + 1)), vi (pZ (q + 1))), (vb false, vb false), (vb (decide (pZ q ≤ 255)), vb true), (vb (decide (pZ q ≤ 255)), vb true)] (by kernel_rfl) ⟨vi_eq (add_eq hq5), rfl, vb_eq (le_eq hq5), vb_eq (le_eq hq5), trivial⟩

theorem st_5_22 {x : Int} {q : Nat} (hq5 : q < 255) : RoundOk 5 22 x q := by
  exact @round_ok 5 22 x q false [vb true, vb true, vb false, vi (pZ (q + 1))] [(vi (IntKind.i64.wrap (pZ q + 1)), vi (pZ (q + 1))), (vb false, vb false), (vb (decide (pZ q ≤ 255)), vb true), (vb (decide (pZ q ≤ 255)), vb true)] (by kernel_rfl) ⟨vi_eq (add_eq hq5), rfl, vb_eq (le_eq hq5), vb_eq (le_eq hq5), trivial⟩

theorem st_5_23 {x : Int} {q : Nat} (hq5 : q < 255) : RoundOk 5 23 x q := by
  exact @round_ok 5 23 x q false [vb true, vb true, vb false, vi (pZ (q + 1))] [(vi (IntKind.i64.wrap (pZ q + 1)), vi (pZ (q + 1))), (vb false, vb false), (vb (decide (pZ q ≤ 255)), vb true), (vb (decide (pZ q ≤ 255)), vb true)] (by kernel_rfl) ⟨vi_eq (add_eq hq5), rfl, vb_eq (le_eq hq5), vb_eq (le_eq hq5), trivial⟩

theorem st_5_24 {x : Int} {q : Nat} (hq5 : q < 255) : RoundOk 5 24 x q := by
  exact @round_ok 5 24 x q false [vb true, vb true, vb false, vi (pZ (q + 1))] [(vi (IntKind.i64.wrap (pZ q + 1)), vi (pZ (q + 1))), (vb false, vb false), (vb (decide (pZ q ≤ 255)), vb true), (vb (decide (pZ q ≤ 255)), vb true)] (by kernel_rfl) ⟨vi_eq (add_eq hq5), rfl, vb_eq (le_eq hq5), vb_eq (le_eq hq5), trivial⟩

theorem st_5_25 {x : Int} {q : Nat} (hq5 : q < 255) : RoundOk 5 25 x q := by
  exact @round_ok 5 25 x q false [vb true, vb true, vb false, vi (pZ (q + 1))] [(vi (IntKind.i64.wrap (pZ q + 1)), vi (pZ (q + 1))), (vb false, vb false), (vb (decide (pZ q ≤ 255)), vb true), (vb (decide (pZ q ≤ 255)), vb true)] (by kernel_rfl) ⟨vi_eq (add_eq hq5), rfl, vb_eq (le_eq hq5), vb_eq (le_eq hq5), trivial⟩

theorem st_5_26 {x : Int} {q : Nat} (hq5 : q < 255) : RoundOk 5 26 x q := by
  exact @round_ok 5 26 x q false [vb true, vb true, vb false, vi (pZ (q + 1))] [(vi (IntKind.i64.wrap (pZ q + 1)), vi (pZ (q + 1))), (vb false, vb false), (vb (decide (pZ q ≤ 255)), vb true), (vb (decide (pZ q ≤ 255)), vb true)] (by kernel_rfl) ⟨vi_eq (add_eq hq5), rfl, vb_eq (le_eq hq5), vb_eq (le_eq hq5), trivial⟩

theorem st_5_27 {x : Int} {q : Nat} (hq5 : q < 255) : RoundOk 5 27 x q := by
  exact @round_ok 5 27 x q false [vb true, vb true, vb false, vi (pZ (q + 1))] [(vi (IntKind.i64.wrap (pZ q + 1)), vi (pZ (q + 1))), (vb false, vb false), (vb (decide (pZ q ≤ 255)), vb true), (vb (decide (pZ q ≤ 255)), vb true)] (by kernel_rfl) ⟨vi_eq (add_eq hq5), rfl, vb_eq (le_eq hq5), vb_eq (le_eq hq5), trivial⟩

theorem st_5_28 {x : Int} {q : Nat} (hq5 : q < 255) : RoundOk 5 28 x q := by
  exact @round_ok 5 28 x q false [vb true, vb true, vb false, vi (pZ (q + 1))] [(vi (IntKind.i64.wrap (pZ q + 1)), vi (pZ (q + 1))), (vb false, vb false), (vb (decide (pZ q ≤ 255)), vb true), (vb (decide (pZ q ≤ 255)), vb true)] (by kernel_rfl) ⟨vi_eq (add_eq hq5), rfl, vb_eq (le_eq hq5), vb_eq (le_eq hq5), trivial⟩

theorem st_5_29 {x : Int} {q : Nat} (hq5 : q < 255) : RoundOk 5 29 x q := by
  exact @round_ok 5 29 x q false [vb true, vb true, vb false, vi (pZ (q + 1))] [(vi (IntKind.i64.wrap (pZ q + 1)), vi (pZ (q + 1))), (vb false, vb false), (vb (decide (pZ q ≤ 255)), vb true), (vb (decide (pZ q ≤ 255)), vb true)] (by kernel_rfl) ⟨vi_eq (add_eq hq5), rfl, vb_eq (le_eq hq5), vb_eq (le_eq hq5), trivial⟩

theorem st_5_30 {x : Int} {q : Nat} (hq5 : q < 255) : RoundOk 5 30 x q := by
  exact @round_ok 5 30 x q false [vb true, vb true, vb false, vi (pZ (q + 1))] [(vi (IntKind.i64.wrap (pZ q + 1)), vi (pZ (q + 1))), (vb false, vb false), (vb (decide (pZ q ≤ 255)), vb true), (vb (decide (pZ q ≤ 255)), vb true)] (by kernel_rfl) ⟨vi_eq (add_eq hq5), rfl, vb_eq (le_eq hq5), vb_eq (le_eq hq5), trivial⟩

end Go.Ab
