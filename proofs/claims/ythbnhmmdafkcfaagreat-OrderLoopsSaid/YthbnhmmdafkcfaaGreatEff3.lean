/- What orchestrionlaw09.Effect answers for one dialect, in parts. -/
import Derived.Test.YthbnhmmdafkcfaaGreatFnD
set_option linter.unusedVariables false
set_option linter.unusedSimpArgs false
namespace Go.Ab
open Go.Proofs
set_option maxRecDepth 100000


theorem st_2_20 {x : Int} {q : Nat} (hq5 : q < 255) : RoundOk 2 20 x q := by
  exact @round_ok 2 20 x q false [vb true, vb true, vb false, vi (pZ (q + 1))] [(vi (IntKind.i64.wrap (pZ q + 1)), vi (pZ (q + 1))), (vb false, vb false), (vb (decide (pZ q ≤ 255)), vb true), (vb (decide (pZ q ≤ 255)), vb true)] (by kernel_rfl) ⟨vi_eq (add_eq hq5), rfl, vb_eq (le_eq hq5), vb_eq (le_eq hq5), trivial⟩



theorem st_2_21 {x : Int} {q : Nat} (hq5 : q < 255) : RoundOk 2 21 x q := by
  cases h0 : (lZ q == 15) with
  | false =>
    cases h1 : (hZ q == 15) with
    | false =>
      exact @round_ok 2 21 x q false [vb true, vb true, vb false, vb false, vb false, vi (pZ (q + 1))] [(vi (IntKind.i64.wrap (pZ q + 1)), vi (pZ (q + 1))), (vb false, vb false), (vb (hZ q == 15), vb false), (vb (lZ q == 15), vb false), (vb (decide (pZ q ≤ 255)), vb true), (vb (decide (pZ q ≤ 255)), vb true)] (by kernel_rfl) ⟨vi_eq (add_eq hq5), rfl, vb_eq h1, vb_eq h0, vb_eq (le_eq hq5), vb_eq (le_eq hq5), trivial⟩
    | true =>
      cases h2 : (lZ q != 0) with
      | false =>
        exact @round_ok 2 21 x q false [vb true, vb true, vb false, vb true, vb false, vb false, vi (pZ (q + 1))] [(vi (IntKind.i64.wrap (pZ q + 1)), vi (pZ (q + 1))), (vb false, vb false), (vb (lZ q != 0), vb false), (vb (hZ q == 15), vb true), (vb (lZ q == 15), vb false), (vb (decide (pZ q ≤ 255)), vb true), (vb (decide (pZ q ≤ 255)), vb true)] (by kernel_rfl) ⟨vi_eq (add_eq hq5), rfl, vb_eq h2, vb_eq h1, vb_eq h0, vb_eq (le_eq hq5), vb_eq (le_eq hq5), trivial⟩
      | true =>
        exact @round_ok 2 21 x q false [vb true, vb true, vb false, vb true, vb true, vb false, vi (pZ (q + 1))] [(vi (IntKind.i64.wrap (pZ q + 1)), vi (pZ (q + 1))), (vb false, vb false), (vb (lZ q != 0), vb true), (vb (hZ q == 15), vb true), (vb (lZ q == 15), vb false), (vb (decide (pZ q ≤ 255)), vb true), (vb (decide (pZ q ≤ 255)), vb true)] (by kernel_rfl) ⟨vi_eq (add_eq hq5), rfl, vb_eq h2, vb_eq h1, vb_eq h0, vb_eq (le_eq hq5), vb_eq (le_eq hq5), trivial⟩
  | true =>
    cases h1 : (hZ q != 0) with
    | false =>
      cases h2 : (hZ q == 15) with
      | false =>
        exact @round_ok 2 21 x q false [vb true, vb true, vb true, vb false, vb false, vb false, vi (pZ (q + 1))] [(vi (IntKind.i64.wrap (pZ q + 1)), vi (pZ (q + 1))), (vb false, vb false), (vb (hZ q == 15), vb false), (vb (hZ q != 0), vb false), (vb (lZ q == 15), vb true), (vb (decide (pZ q ≤ 255)), vb true), (vb (decide (pZ q ≤ 255)), vb true)] (by kernel_rfl) ⟨vi_eq (add_eq hq5), rfl, vb_eq h2, vb_eq h1, vb_eq h0, vb_eq (le_eq hq5), vb_eq (le_eq hq5), trivial⟩
      | true =>
        cases h3 : (lZ q != 0) with
        | false =>
          exact @round_ok 2 21 x q false [vb true, vb true, vb true, vb false, vb true, vb false, vb false, vi (pZ (q + 1))] [(vi (IntKind.i64.wrap (pZ q + 1)), vi (pZ (q + 1))), (vb false, vb false), (vb (lZ q != 0), vb false), (vb (hZ q == 15), vb true), (vb (hZ q != 0), vb false), (vb (lZ q == 15), vb true), (vb (decide (pZ q ≤ 255)), vb true), (vb (decide (pZ q ≤ 255)), vb true)] (by kernel_rfl) ⟨vi_eq (add_eq hq5), rfl, vb_eq h3, vb_eq h2, vb_eq h1, vb_eq h0, vb_eq (le_eq hq5), vb_eq (le_eq hq5), trivial⟩
        | true =>
          exact @round_ok 2 21 x q false [vb true, vb true, vb true, vb false, vb true, vb true, vb false, vi (pZ (q + 1))] [(vi (IntKind.i64.wrap (pZ q + 1)), vi (pZ (q + 1))), (vb false, vb false), (vb (lZ q != 0), vb true), (vb (hZ q == 15), vb true), (vb (hZ q != 0), vb false), (vb (lZ q == 15), vb true), (vb (decide (pZ q ≤ 255)), vb true), (vb (decide (pZ q ≤ 255)), vb true)] (by kernel_rfl) ⟨vi_eq (add_eq hq5), rfl, vb_eq h3, vb_eq h2, vb_eq h1, vb_eq h0, vb_eq (le_eq hq5), vb_eq (le_eq hq5), trivial⟩
    | true =>
      exact @round_ok 2 21 x q false [vb true, vb true, vb true, vb true, vb false, vi (pZ (q + 1))] [(vi (IntKind.i64.wrap (pZ q + 1)), vi (pZ (q + 1))), (vb false, vb false), (vb (hZ q != 0), vb true), (vb (lZ q == 15), vb true), (vb (decide (pZ q ≤ 255)), vb true), (vb (decide (pZ q ≤ 255)), vb true)] (by kernel_rfl) ⟨vi_eq (add_eq hq5), rfl, vb_eq h1, vb_eq h0, vb_eq (le_eq hq5), vb_eq (le_eq hq5), trivial⟩



theorem st_2_22 {x : Int} {q : Nat} (hq5 : q < 255) : RoundOk 2 22 x q := by
  cases h0 : (lZ q == 15) with
  | false =>
    cases h1 : (hZ q == 15) with
    | false =>
      exact @round_ok 2 22 x q false [vb true, vb true, vb false, vb false, vb false, vi (pZ (q + 1))] [(vi (IntKind.i64.wrap (pZ q + 1)), vi (pZ (q + 1))), (vb false, vb false), (vb (hZ q == 15), vb false), (vb (lZ q == 15), vb false), (vb (decide (pZ q ≤ 255)), vb true), (vb (decide (pZ q ≤ 255)), vb true)] (by kernel_rfl) ⟨vi_eq (add_eq hq5), rfl, vb_eq h1, vb_eq h0, vb_eq (le_eq hq5), vb_eq (le_eq hq5), trivial⟩
    | true =>
      cases h2 : (lZ q != 0) with
      | false =>
        exact @round_ok 2 22 x q false [vb true, vb true, vb false, vb true, vb false, vb false, vi (pZ (q + 1))] [(vi (IntKind.i64.wrap (pZ q + 1)), vi (pZ (q + 1))), (vb false, vb false), (vb (lZ q != 0), vb false), (vb (hZ q == 15), vb true), (vb (lZ q == 15), vb false), (vb (decide (pZ q ≤ 255)), vb true), (vb (decide (pZ q ≤ 255)), vb true)] (by kernel_rfl) ⟨vi_eq (add_eq hq5), rfl, vb_eq h2, vb_eq h1, vb_eq h0, vb_eq (le_eq hq5), vb_eq (le_eq hq5), trivial⟩
      | true =>
        exact @round_ok 2 22 x q false [vb true, vb true, vb false, vb true, vb true, vb false, vi (pZ (q + 1))] [(vi (IntKind.i64.wrap (pZ q + 1)), vi (pZ (q + 1))), (vb false, vb false), (vb (lZ q != 0), vb true), (vb (hZ q == 15), vb true), (vb (lZ q == 15), vb false), (vb (decide (pZ q ≤ 255)), vb true), (vb (decide (pZ q ≤ 255)), vb true)] (by kernel_rfl) ⟨vi_eq (add_eq hq5), rfl, vb_eq h2, vb_eq h1, vb_eq h0, vb_eq (le_eq hq5), vb_eq (le_eq hq5), trivial⟩
  | true =>
    cases h1 : (hZ q != 0) with
    | false =>
      cases h2 : (hZ q == 15) with
      | false =>
        exact @round_ok 2 22 x q false [vb true, vb true, vb true, vb false, vb false, vb false, vi (pZ (q + 1))] [(vi (IntKind.i64.wrap (pZ q + 1)), vi (pZ (q + 1))), (vb false, vb false), (vb (hZ q == 15), vb false), (vb (hZ q != 0), vb false), (vb (lZ q == 15), vb true), (vb (decide (pZ q ≤ 255)), vb true), (vb (decide (pZ q ≤ 255)), vb true)] (by kernel_rfl) ⟨vi_eq (add_eq hq5), rfl, vb_eq h2, vb_eq h1, vb_eq h0, vb_eq (le_eq hq5), vb_eq (le_eq hq5), trivial⟩
      | true =>
        cases h3 : (lZ q != 0) with
        | false =>
          exact @round_ok 2 22 x q false [vb true, vb true, vb true, vb false, vb true, vb false, vb false, vi (pZ (q + 1))] [(vi (IntKind.i64.wrap (pZ q + 1)), vi (pZ (q + 1))), (vb false, vb false), (vb (lZ q != 0), vb false), (vb (hZ q == 15), vb true), (vb (hZ q != 0), vb false), (vb (lZ q == 15), vb true), (vb (decide (pZ q ≤ 255)), vb true), (vb (decide (pZ q ≤ 255)), vb true)] (by kernel_rfl) ⟨vi_eq (add_eq hq5), rfl, vb_eq h3, vb_eq h2, vb_eq h1, vb_eq h0, vb_eq (le_eq hq5), vb_eq (le_eq hq5), trivial⟩
        | true =>
          exact @round_ok 2 22 x q false [vb true, vb true, vb true, vb false, vb true, vb true, vb false, vi (pZ (q + 1))] [(vi (IntKind.i64.wrap (pZ q + 1)), vi (pZ (q + 1))), (vb false, vb false), (vb (lZ q != 0), vb true), (vb (hZ q == 15), vb true), (vb (hZ q != 0), vb false), (vb (lZ q == 15), vb true), (vb (decide (pZ q ≤ 255)), vb true), (vb (decide (pZ q ≤ 255)), vb true)] (by kernel_rfl) ⟨vi_eq (add_eq hq5), rfl, vb_eq h3, vb_eq h2, vb_eq h1, vb_eq h0, vb_eq (le_eq hq5), vb_eq (le_eq hq5), trivial⟩
    | true =>
      exact @round_ok 2 22 x q false [vb true, vb true, vb true, vb true, vb false, vi (pZ (q + 1))] [(vi (IntKind.i64.wrap (pZ q + 1)), vi (pZ (q + 1))), (vb false, vb false), (vb (hZ q != 0), vb true), (vb (lZ q == 15), vb true), (vb (decide (pZ q ≤ 255)), vb true), (vb (decide (pZ q ≤ 255)), vb true)] (by kernel_rfl) ⟨vi_eq (add_eq hq5), rfl, vb_eq h1, vb_eq h0, vb_eq (le_eq hq5), vb_eq (le_eq hq5), trivial⟩



theorem st_2_23 {x : Int} {q : Nat} (hq5 : q < 255) : RoundOk 2 23 x q := by
  exact @round_ok 2 23 x q false [vb true, vb true, vb false, vi (pZ (q + 1))] [(vi (IntKind.i64.wrap (pZ q + 1)), vi (pZ (q + 1))), (vb false, vb false), (vb (decide (pZ q ≤ 255)), vb true), (vb (decide (pZ q ≤ 255)), vb true)] (by kernel_rfl) ⟨vi_eq (add_eq hq5), rfl, vb_eq (le_eq hq5), vb_eq (le_eq hq5), trivial⟩



theorem st_2_24 {x : Int} {q : Nat} (hq5 : q < 255) : RoundOk 2 24 x q := by
  exact @round_ok 2 24 x q false [vb true, vb true, vb false, vi (pZ (q + 1))] [(vi (IntKind.i64.wrap (pZ q + 1)), vi (pZ (q + 1))), (vb false, vb false), (vb (decide (pZ q ≤ 255)), vb true), (vb (decide (pZ q ≤ 255)), vb true)] (by kernel_rfl) ⟨vi_eq (add_eq hq5), rfl, vb_eq (le_eq hq5), vb_eq (le_eq hq5), trivial⟩



theorem st_2_25 {x : Int} {q : Nat} (hq5 : q < 255) : RoundOk 2 25 x q := by
  exact @round_ok 2 25 x q false [vb true, vb true, vb false, vi (pZ (q + 1))] [(vi (IntKind.i64.wrap (pZ q + 1)), vi (pZ (q + 1))), (vb false, vb false), (vb (decide (pZ q ≤ 255)), vb true), (vb (decide (pZ q ≤ 255)), vb true)] (by kernel_rfl) ⟨vi_eq (add_eq hq5), rfl, vb_eq (le_eq hq5), vb_eq (le_eq hq5), trivial⟩



theorem st_2_26 {x : Int} {q : Nat} (hq5 : q < 255) : RoundOk 2 26 x q := by
  exact @round_ok 2 26 x q false [vb true, vb true, vb false, vi (pZ (q + 1))] [(vi (IntKind.i64.wrap (pZ q + 1)), vi (pZ (q + 1))), (vb false, vb false), (vb (decide (pZ q ≤ 255)), vb true), (vb (decide (pZ q ≤ 255)), vb true)] (by kernel_rfl) ⟨vi_eq (add_eq hq5), rfl, vb_eq (le_eq hq5), vb_eq (le_eq hq5), trivial⟩



theorem st_2_27 {x : Int} {q : Nat} (hq5 : q < 255) : RoundOk 2 27 x q := by
  exact @round_ok 2 27 x q false [vb true, vb true, vb false, vi (pZ (q + 1))] [(vi (IntKind.i64.wrap (pZ q + 1)), vi (pZ (q + 1))), (vb false, vb false), (vb (decide (pZ q ≤ 255)), vb true), (vb (decide (pZ q ≤ 255)), vb true)] (by kernel_rfl) ⟨vi_eq (add_eq hq5), rfl, vb_eq (le_eq hq5), vb_eq (le_eq hq5), trivial⟩



theorem st_2_28 {x : Int} {q : Nat} (hq5 : q < 255) : RoundOk 2 28 x q := by
  exact @round_ok 2 28 x q false [vb true, vb true, vb false, vi (pZ (q + 1))] [(vi (IntKind.i64.wrap (pZ q + 1)), vi (pZ (q + 1))), (vb false, vb false), (vb (decide (pZ q ≤ 255)), vb true), (vb (decide (pZ q ≤ 255)), vb true)] (by kernel_rfl) ⟨vi_eq (add_eq hq5), rfl, vb_eq (le_eq hq5), vb_eq (le_eq hq5), trivial⟩

theorem st_2_29_0 {x : Int} {q : Nat} (hq5 : q < 255) (hv : hZ q = 0) : RoundOk 2 29 x q := by
  exact @round_ok 2 29 x q true [vb true, vb true, vi 0, vb false, vi (pZ (q + 1))] [(vi (IntKind.i64.wrap (pZ q + 1)), vi (pZ (q + 1))), (vb false, vb false), (vi (hZ q), vi 0), (vb (decide (pZ q ≤ 255)), vb true), (vb (decide (pZ q ≤ 255)), vb true)] (by kernel_rfl) ⟨vi_eq (add_eq hq5), rfl, vi_eq hv, vb_eq (le_eq hq5), vb_eq (le_eq hq5), trivial⟩

theorem st_2_29_1 {x : Int} {q : Nat} (hq5 : q < 255) (hv : hZ q = 1) : RoundOk 2 29 x q := by
  exact @round_ok 2 29 x q true [vb true, vb true, vi 1, vb false, vi (pZ (q + 1))] [(vi (IntKind.i64.wrap (pZ q + 1)), vi (pZ (q + 1))), (vb false, vb false), (vi (hZ q), vi 1), (vb (decide (pZ q ≤ 255)), vb true), (vb (decide (pZ q ≤ 255)), vb true)] (by kernel_rfl) ⟨vi_eq (add_eq hq5), rfl, vi_eq hv, vb_eq (le_eq hq5), vb_eq (le_eq hq5), trivial⟩

theorem st_2_29_2 {x : Int} {q : Nat} (hq5 : q < 255) (hv : hZ q = 2) : RoundOk 2 29 x q := by
  exact @round_ok 2 29 x q true [vb true, vb true, vi 2, vb false, vi (pZ (q + 1))] [(vi (IntKind.i64.wrap (pZ q + 1)), vi (pZ (q + 1))), (vb false, vb false), (vi (hZ q), vi 2), (vb (decide (pZ q ≤ 255)), vb true), (vb (decide (pZ q ≤ 255)), vb true)] (by kernel_rfl) ⟨vi_eq (add_eq hq5), rfl, vi_eq hv, vb_eq (le_eq hq5), vb_eq (le_eq hq5), trivial⟩

theorem st_2_29_3 {x : Int} {q : Nat} (hq5 : q < 255) (hv : hZ q = 3) : RoundOk 2 29 x q := by
  exact @round_ok 2 29 x q true [vb true, vb true, vi 3, vb false, vi (pZ (q + 1))] [(vi (IntKind.i64.wrap (pZ q + 1)), vi (pZ (q + 1))), (vb false, vb false), (vi (hZ q), vi 3), (vb (decide (pZ q ≤ 255)), vb true), (vb (decide (pZ q ≤ 255)), vb true)] (by kernel_rfl) ⟨vi_eq (add_eq hq5), rfl, vi_eq hv, vb_eq (le_eq hq5), vb_eq (le_eq hq5), trivial⟩

theorem st_2_29_4 {x : Int} {q : Nat} (hq5 : q < 255) (hv : hZ q = 4) : RoundOk 2 29 x q := by
  exact @round_ok 2 29 x q true [vb true, vb true, vi 4, vb false, vi (pZ (q + 1))] [(vi (IntKind.i64.wrap (pZ q + 1)), vi (pZ (q + 1))), (vb false, vb false), (vi (hZ q), vi 4), (vb (decide (pZ q ≤ 255)), vb true), (vb (decide (pZ q ≤ 255)), vb true)] (by kernel_rfl) ⟨vi_eq (add_eq hq5), rfl, vi_eq hv, vb_eq (le_eq hq5), vb_eq (le_eq hq5), trivial⟩

theorem st_2_29_5 {x : Int} {q : Nat} (hq5 : q < 255) (hv : hZ q = 5) : RoundOk 2 29 x q := by
  exact @round_ok 2 29 x q true [vb true, vb true, vi 5, vb false, vi (pZ (q + 1))] [(vi (IntKind.i64.wrap (pZ q + 1)), vi (pZ (q + 1))), (vb false, vb false), (vi (hZ q), vi 5), (vb (decide (pZ q ≤ 255)), vb true), (vb (decide (pZ q ≤ 255)), vb true)] (by kernel_rfl) ⟨vi_eq (add_eq hq5), rfl, vi_eq hv, vb_eq (le_eq hq5), vb_eq (le_eq hq5), trivial⟩

theorem st_2_29_6 {x : Int} {q : Nat} (hq5 : q < 255) (hv : hZ q = 6) : RoundOk 2 29 x q := by
  exact @round_ok 2 29 x q true [vb true, vb true, vi 6, vb false, vi (pZ (q + 1))] [(vi (IntKind.i64.wrap (pZ q + 1)), vi (pZ (q + 1))), (vb false, vb false), (vi (hZ q), vi 6), (vb (decide (pZ q ≤ 255)), vb true), (vb (decide (pZ q ≤ 255)), vb true)] (by kernel_rfl) ⟨vi_eq (add_eq hq5), rfl, vi_eq hv, vb_eq (le_eq hq5), vb_eq (le_eq hq5), trivial⟩

theorem st_2_29_7 {x : Int} {q : Nat} (hq5 : q < 255) (hv : hZ q = 7) : RoundOk 2 29 x q := by
  exact @round_ok 2 29 x q true [vb true, vb true, vi 7, vb false, vi (pZ (q + 1))] [(vi (IntKind.i64.wrap (pZ q + 1)), vi (pZ (q + 1))), (vb false, vb false), (vi (hZ q), vi 7), (vb (decide (pZ q ≤ 255)), vb true), (vb (decide (pZ q ≤ 255)), vb true)] (by kernel_rfl) ⟨vi_eq (add_eq hq5), rfl, vi_eq hv, vb_eq (le_eq hq5), vb_eq (le_eq hq5), trivial⟩

theorem st_2_29_8 {x : Int} {q : Nat} (hq5 : q < 255) (hv : hZ q = 8) : RoundOk 2 29 x q := by
  exact @round_ok 2 29 x q true [vb true, vb true, vi 8, vb false, vi (pZ (q + 1))] [(vi (IntKind.i64.wrap (pZ q + 1)), vi (pZ (q + 1))), (vb false, vb false), (vi (hZ q), vi 8), (vb (decide (pZ q ≤ 255)), vb true), (vb (decide (pZ q ≤ 255)), vb true)] (by kernel_rfl) ⟨vi_eq (add_eq hq5), rfl, vi_eq hv, vb_eq (le_eq hq5), vb_eq (le_eq hq5), trivial⟩

theorem st_2_29_9 {x : Int} {q : Nat} (hq5 : q < 255) (hv : hZ q = 9) : RoundOk 2 29 x q := by
  exact @round_ok 2 29 x q true [vb true, vb true, vi 9, vb false, vi (pZ (q + 1))] [(vi (IntKind.i64.wrap (pZ q + 1)), vi (pZ (q + 1))), (vb false, vb false), (vi (hZ q), vi 9), (vb (decide (pZ q ≤ 255)), vb true), (vb (decide (pZ q ≤ 255)), vb true)] (by kernel_rfl) ⟨vi_eq (add_eq hq5), rfl, vi_eq hv, vb_eq (le_eq hq5), vb_eq (le_eq hq5), trivial⟩

theorem st_2_29_10 {x : Int} {q : Nat} (hq5 : q < 255) (hv : hZ q = 10) : RoundOk 2 29 x q := by
  exact @round_ok 2 29 x q true [vb true, vb true, vi 10, vb false, vi (pZ (q + 1))] [(vi (IntKind.i64.wrap (pZ q + 1)), vi (pZ (q + 1))), (vb false, vb false), (vi (hZ q), vi 10), (vb (decide (pZ q ≤ 255)), vb true), (vb (decide (pZ q ≤ 255)), vb true)] (by kernel_rfl) ⟨vi_eq (add_eq hq5), rfl, vi_eq hv, vb_eq (le_eq hq5), vb_eq (le_eq hq5), trivial⟩

theorem st_2_29_11 {x : Nat} (hx : x ≤ 15) {q : Nat} (hq : q + 1 < 176 + x) (hq5 : q < 255) (hv : hZ q = 11) : RoundOk 2 29 x q := by
  have hc : (lZ q == (x : Int)) = false := by
    rw [lZ_eq]
    have := hZ_eq hq5
    simp only [beq_eq_false_iff_ne, ne_eq, Int.ofNat_inj]
    omega
  exact @round_ok 2 29 x q true [vb true, vb true, vi 11, vb false, vi (pZ (q + 1))] [(vi (IntKind.i64.wrap (pZ q + 1)), vi (pZ (q + 1))), (vb (((34 : Int) == 34) && ((lZ q == (x : Int)) && (((0 : Int) == 0) && true))), vb false), (vi (hZ q), vi 11), (vb (decide (pZ q ≤ 255)), vb true), (vb (decide (pZ q ≤ 255)), vb true)] (by kernel_rfl) ⟨vi_eq (add_eq hq5), vb_eq (by rw [hc]; rfl), vi_eq hv, vb_eq (le_eq hq5), vb_eq (le_eq hq5), trivial⟩

theorem st_2_29 {x : Nat} (hx : x ≤ 15) {q : Nat} (hq : q + 1 < 176 + x) : RoundOk 2 29 x q := by
  have hq5 : q < 255 := by omega
  have hh := hZ_eq hq5
  have hk : (q + 1) / 16 = 0 ∨ (q + 1) / 16 = 1 ∨ (q + 1) / 16 = 2 ∨ (q + 1) / 16 = 3 ∨ (q + 1) / 16 = 4 ∨ (q + 1) / 16 = 5 ∨ (q + 1) / 16 = 6 ∨ (q + 1) / 16 = 7 ∨ (q + 1) / 16 = 8 ∨ (q + 1) / 16 = 9 ∨ (q + 1) / 16 = 10 ∨ (q + 1) / 16 = 11 := by omega
  rcases hk with hk | hk | hk | hk | hk | hk | hk | hk | hk | hk | hk | hk
  · exact @st_2_29_0 x q hq5 (by rw [hh, hk]; rfl)
  · exact @st_2_29_1 x q hq5 (by rw [hh, hk]; rfl)
  · exact @st_2_29_2 x q hq5 (by rw [hh, hk]; rfl)
  · exact @st_2_29_3 x q hq5 (by rw [hh, hk]; rfl)
  · exact @st_2_29_4 x q hq5 (by rw [hh, hk]; rfl)
  · exact @st_2_29_5 x q hq5 (by rw [hh, hk]; rfl)
  · exact @st_2_29_6 x q hq5 (by rw [hh, hk]; rfl)
  · exact @st_2_29_7 x q hq5 (by rw [hh, hk]; rfl)
  · exact @st_2_29_8 x q hq5 (by rw [hh, hk]; rfl)
  · exact @st_2_29_9 x q hq5 (by rw [hh, hk]; rfl)
  · exact @st_2_29_10 x q hq5 (by rw [hh, hk]; rfl)
  · exact @st_2_29_11 x hx q hq hq5 (by rw [hh, hk]; rfl)
theorem hit_2_29 {x : Nat} (hx : x ≤ 15) {q : Nat} (hq : q + 1 = 176 + x) : RoundHit 2 29 x q := by
  have hq5 : q < 255 := by omega
  have hh := hZ_eq hq5
  have hv : hZ q = 11 := by rw [hh, show (q + 1) / 16 = 11 by omega]; rfl
  have hc : (lZ q == (x : Int)) = true := by
    rw [lZ_eq]
    simp only [beq_iff_eq, Int.ofNat_inj]
    omega
  exact @round_hit 2 29 x q true [vb true, vb true, vi 11, vb true] [(vb (((34 : Int) == 34) && ((lZ q == (x : Int)) && (((0 : Int) == 0) && true))), vb true), (vi (hZ q), vi 11), (vb (decide (pZ q ≤ 255)), vb true), (vb (decide (pZ q ≤ 255)), vb true)] (by kernel_rfl) ⟨vb_eq (by rw [hc]; rfl), vi_eq hv, vb_eq (le_eq hq5), vb_eq (le_eq hq5), trivial⟩

end Go.Ab
