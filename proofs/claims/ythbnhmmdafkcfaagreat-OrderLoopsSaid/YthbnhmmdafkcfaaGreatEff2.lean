/- What orchestrionlaw09.Effect answers for one dialect, in parts. -/
import Derived.Test.YthbnhmmdafkcfaaGreatFnD
set_option linter.unusedVariables false
set_option linter.unusedSimpArgs false
namespace Go.Ab
open Go.Proofs
set_option maxRecDepth 100000
theorem st_2_3 {x : Int} {q : Nat} (hq5 : q < 255) : RoundOk 2 3 x q := by
  exact @round_ok 2 3 x q false [vb true, vb true, vb false, vi (pZ (q + 1))] [(vi (IntKind.i64.wrap (pZ q + 1)), vi (pZ (q + 1))), (vb false, vb false), (vb (decide (pZ q ≤ 255)), vb true), (vb (decide (pZ q ≤ 255)), vb true)] (by kernel_rfl) ⟨vi_eq (add_eq hq5), rfl, vb_eq (le_eq hq5), vb_eq (le_eq hq5), trivial⟩

theorem st_2_4 {x : Int} {q : Nat} (hq5 : q < 255) : RoundOk 2 4 x q := by
  exact @round_ok 2 4 x q false [vb true, vb true, vb false, vi (pZ (q + 1))] [(vi (IntKind.i64.wrap (pZ q + 1)), vi (pZ (q + 1))), (vb false, vb false), (vb (decide (pZ q ≤ 255)), vb true), (vb (decide (pZ q ≤ 255)), vb true)] (by kernel_rfl) ⟨vi_eq (add_eq hq5), rfl, vb_eq (le_eq hq5), vb_eq (le_eq hq5), trivial⟩

theorem st_2_5 {x : Int} {q : Nat} (hq5 : q < 255) : RoundOk 2 5 x q := by
  exact @round_ok 2 5 x q false [vb true, vb true, vb false, vi (pZ (q + 1))] [(vi (IntKind.i64.wrap (pZ q + 1)), vi (pZ (q + 1))), (vb false, vb false), (vb (decide (pZ q ≤ 255)), vb true), (vb (decide (pZ q ≤ 255)), vb true)] (by kernel_rfl) ⟨vi_eq (add_eq hq5), rfl, vb_eq (le_eq hq5), vb_eq (le_eq hq5), trivial⟩

theorem st_2_6 {x : Int} {q : Nat} (hq5 : q < 255) : RoundOk 2 6 x q := by
  exact @round_ok 2 6 x q false [vb true, vb true, vb false, vi (pZ (q + 1))] [(vi (IntKind.i64.wrap (pZ q + 1)), vi (pZ (q + 1))), (vb false, vb false), (vb (decide (pZ q ≤ 255)), vb true), (vb (decide (pZ q ≤ 255)), vb true)] (by kernel_rfl) ⟨vi_eq (add_eq hq5), rfl, vb_eq (le_eq hq5), vb_eq (le_eq hq5), trivial⟩

theorem st_2_7 {x : Int} {q : Nat} (hq5 : q < 255) : RoundOk 2 7 x q := by
  exact @round_ok 2 7 x q false [vb true, vb true, vb false, vi (pZ (q + 1))] [(vi (IntKind.i64.wrap (pZ q + 1)), vi (pZ (q + 1))), (vb false, vb false), (vb (decide (pZ q ≤ 255)), vb true), (vb (decide (pZ q ≤ 255)), vb true)] (by kernel_rfl) ⟨vi_eq (add_eq hq5), rfl, vb_eq (le_eq hq5), vb_eq (le_eq hq5), trivial⟩

theorem st_2_8 {x : Int} {q : Nat} (hq5 : q < 255) : RoundOk 2 8 x q := by
  exact @round_ok 2 8 x q false [vb true, vb true, vb false, vi (pZ (q + 1))] [(vi (IntKind.i64.wrap (pZ q + 1)), vi (pZ (q + 1))), (vb false, vb false), (vb (decide (pZ q ≤ 255)), vb true), (vb (decide (pZ q ≤ 255)), vb true)] (by kernel_rfl) ⟨vi_eq (add_eq hq5), rfl, vb_eq (le_eq hq5), vb_eq (le_eq hq5), trivial⟩

theorem st_2_9 {x : Int} {q : Nat} (hq5 : q < 255) : RoundOk 2 9 x q := by
  exact @round_ok 2 9 x q false [vb true, vb true, vb false, vi (pZ (q + 1))] [(vi (IntKind.i64.wrap (pZ q + 1)), vi (pZ (q + 1))), (vb false, vb false), (vb (decide (pZ q ≤ 255)), vb true), (vb (decide (pZ q ≤ 255)), vb true)] (by kernel_rfl) ⟨vi_eq (add_eq hq5), rfl, vb_eq (le_eq hq5), vb_eq (le_eq hq5), trivial⟩

theorem st_2_10 {x : Int} {q : Nat} (hq5 : q < 255) : RoundOk 2 10 x q := by
  exact @round_ok 2 10 x q false [vb true, vb true, vb false, vi (pZ (q + 1))] [(vi (IntKind.i64.wrap (pZ q + 1)), vi (pZ (q + 1))), (vb false, vb false), (vb (decide (pZ q ≤ 255)), vb true), (vb (decide (pZ q ≤ 255)), vb true)] (by kernel_rfl) ⟨vi_eq (add_eq hq5), rfl, vb_eq (le_eq hq5), vb_eq (le_eq hq5), trivial⟩

theorem st_2_11 {x : Int} {q : Nat} (hq5 : q < 255) : RoundOk 2 11 x q := by
  exact @round_ok 2 11 x q false [vb true, vb true, vb false, vi (pZ (q + 1))] [(vi (IntKind.i64.wrap (pZ q + 1)), vi (pZ (q + 1))), (vb false, vb false), (vb (decide (pZ q ≤ 255)), vb true), (vb (decide (pZ q ≤ 255)), vb true)] (by kernel_rfl) ⟨vi_eq (add_eq hq5), rfl, vb_eq (le_eq hq5), vb_eq (le_eq hq5), trivial⟩

theorem st_2_12 {x : Int} {q : Nat} (hq5 : q < 255) : RoundOk 2 12 x q := by
  exact @round_ok 2 12 x q false [vb true, vb true, vb false, vi (pZ (q + 1))] [(vi (IntKind.i64.wrap (pZ q + 1)), vi (pZ (q + 1))), (vb false, vb false), (vb (decide (pZ q ≤ 255)), vb true), (vb (decide (pZ q ≤ 255)), vb true)] (by kernel_rfl) ⟨vi_eq (add_eq hq5), rfl, vb_eq (le_eq hq5), vb_eq (le_eq hq5), trivial⟩

theorem st_2_13 {x : Int} {q : Nat} (hq5 : q < 255) : RoundOk 2 13 x q := by
  exact @round_ok 2 13 x q false [vb true, vb true, vb false, vi (pZ (q + 1))] [(vi (IntKind.i64.wrap (pZ q + 1)), vi (pZ (q + 1))), (vb false, vb false), (vb (decide (pZ q ≤ 255)), vb true), (vb (decide (pZ q ≤ 255)), vb true)] (by kernel_rfl) ⟨vi_eq (add_eq hq5), rfl, vb_eq (le_eq hq5), vb_eq (le_eq hq5), trivial⟩

theorem st_2_14 {x : Int} {q : Nat} (hq5 : q < 255) : RoundOk 2 14 x q := by
  cases h0 : (lZ q == 15) with
  | false =>
    cases h1 : (hZ q == 15) with
    | false =>
      exact @round_ok 2 14 x q false [vb true, vb true, vb false, vb false, vb false, vi (pZ (q + 1))] [(vi (IntKind.i64.wrap (pZ q + 1)), vi (pZ (q + 1))), (vb false, vb false), (vb (hZ q == 15), vb false), (vb (lZ q == 15), vb false), (vb (decide (pZ q ≤ 255)), vb true), (vb (decide (pZ q ≤ 255)), vb true)] (by kernel_rfl) ⟨vi_eq (add_eq hq5), rfl, vb_eq h1, vb_eq h0, vb_eq (le_eq hq5), vb_eq (le_eq hq5), trivial⟩
    | true =>
      cases h2 : (lZ q != 0) with
      | false =>
        exact @round_ok 2 14 x q false [vb true, vb true, vb false, vb true, vb false, vb false, vi (pZ (q + 1))] [(vi (IntKind.i64.wrap (pZ q + 1)), vi (pZ (q + 1))), (vb false, vb false), (vb (lZ q != 0), vb false), (vb (hZ q == 15), vb true), (vb (lZ q == 15), vb false), (vb (decide (pZ q ≤ 255)), vb true), (vb (decide (pZ q ≤ 255)), vb true)] (by kernel_rfl) ⟨vi_eq (add_eq hq5), rfl, vb_eq h2, vb_eq h1, vb_eq h0, vb_eq (le_eq hq5), vb_eq (le_eq hq5), trivial⟩
      | true =>
        exact @round_ok 2 14 x q false [vb true, vb true, vb false, vb true, vb true, vb false, vi (pZ (q + 1))] [(vi (IntKind.i64.wrap (pZ q + 1)), vi (pZ (q + 1))), (vb false, vb false), (vb (lZ q != 0), vb true), (vb (hZ q == 15), vb true), (vb (lZ q == 15), vb false), (vb (decide (pZ q ≤ 255)), vb true), (vb (decide (pZ q ≤ 255)), vb true)] (by kernel_rfl) ⟨vi_eq (add_eq hq5), rfl, vb_eq h2, vb_eq h1, vb_eq h0, vb_eq (le_eq hq5), vb_eq (le_eq hq5), trivial⟩
  | true =>
    cases h1 : (hZ q != 0) with
    | false =>
      cases h2 : (hZ q == 15) with
      | false =>
        exact @round_ok 2 14 x q false [vb true, vb true, vb true, vb false, vb false, vb false, vi (pZ (q + 1))] [(vi (IntKind.i64.wrap (pZ q + 1)), vi (pZ (q + 1))), (vb false, vb false), (vb (hZ q == 15), vb false), (vb (hZ q != 0), vb false), (vb (lZ q == 15), vb true), (vb (decide (pZ q ≤ 255)), vb true), (vb (decide (pZ q ≤ 255)), vb true)] (by kernel_rfl) ⟨vi_eq (add_eq hq5), rfl, vb_eq h2, vb_eq h1, vb_eq h0, vb_eq (le_eq hq5), vb_eq (le_eq hq5), trivial⟩
      | true =>
        cases h3 : (lZ q != 0) with
        | false =>
          exact @round_ok 2 14 x q false [vb true, vb true, vb true, vb false, vb true, vb false, vb false, vi (pZ (q + 1))] [(vi (IntKind.i64.wrap (pZ q + 1)), vi (pZ (q + 1))), (vb false, vb false), (vb (lZ q != 0), vb false), (vb (hZ q == 15), vb true), (vb (hZ q != 0), vb false), (vb (lZ q == 15), vb true), (vb (decide (pZ q ≤ 255)), vb true), (vb (decide (pZ q ≤ 255)), vb true)] (by kernel_rfl) ⟨vi_eq (add_eq hq5), rfl, vb_eq h3, vb_eq h2, vb_eq h1, vb_eq h0, vb_eq (le_eq hq5), vb_eq (le_eq hq5), trivial⟩
        | true =>
          exact @round_ok 2 14 x q false [vb true, vb true, vb true, vb false, vb true, vb true, vb false, vi (pZ (q + 1))] [(vi (IntKind.i64.wrap (pZ q + 1)), vi (pZ (q + 1))), (vb false, vb false), (vb (lZ q != 0), vb true), (vb (hZ q == 15), vb true), (vb (hZ q != 0), vb false), (vb (lZ q == 15), vb true), (vb (decide (pZ q ≤ 255)), vb true), (vb (decide (pZ q ≤ 255)), vb true)] (by kernel_rfl) ⟨vi_eq (add_eq hq5), rfl, vb_eq h3, vb_eq h2, vb_eq h1, vb_eq h0, vb_eq (le_eq hq5), vb_eq (le_eq hq5), trivial⟩
    | true =>
      exact @round_ok 2 14 x q false [vb true, vb true, vb true, vb true, vb false, vi (pZ (q + 1))] [(vi (IntKind.i64.wrap (pZ q + 1)), vi (pZ (q + 1))), (vb false, vb false), (vb (hZ q != 0), vb true), (vb (lZ q == 15), vb true), (vb (decide (pZ q ≤ 255)), vb true), (vb (decide (pZ q ≤ 255)), vb true)] (by kernel_rfl) ⟨vi_eq (add_eq hq5), rfl, vb_eq h1, vb_eq h0, vb_eq (le_eq hq5), vb_eq (le_eq hq5), trivial⟩

theorem st_2_15 {x : Int} {q : Nat} (hq5 : q < 255) : RoundOk 2 15 x q := by
  cases h0 : (decide (pZ q ≥ 240)) with
  | false =>
    cases h1 : (decide (pZ q ≥ 224)) with
    | false =>
      exact @round_ok 2 15 x q false [vb true, vb true, vb false, vb false, vb false, vi (pZ (q + 1))] [(vi (IntKind.i64.wrap (pZ q + 1)), vi (pZ (q + 1))), (vb false, vb false), (vb (decide (pZ q ≥ 224)), vb false), (vb (decide (pZ q ≥ 240)), vb false), (vb (decide (pZ q ≤ 255)), vb true), (vb (decide (pZ q ≤ 255)), vb true)] (by kernel_rfl) ⟨vi_eq (add_eq hq5), rfl, vb_eq h1, vb_eq h0, vb_eq (le_eq hq5), vb_eq (le_eq hq5), trivial⟩
    | true =>
      exact @round_ok 2 15 x q false [vb true, vb true, vb false, vb true, vb false, vi (pZ (q + 1))] [(vi (IntKind.i64.wrap (pZ q + 1)), vi (pZ (q + 1))), (vb false, vb false), (vb (decide (pZ q ≥ 224)), vb true), (vb (decide (pZ q ≥ 240)), vb false), (vb (decide (pZ q ≤ 255)), vb true), (vb (decide (pZ q ≤ 255)), vb true)] (by kernel_rfl) ⟨vi_eq (add_eq hq5), rfl, vb_eq h1, vb_eq h0, vb_eq (le_eq hq5), vb_eq (le_eq hq5), trivial⟩
  | true =>
    exact @round_ok 2 15 x q false [vb true, vb true, vb true, vb false, vi (pZ (q + 1))] [(vi (IntKind.i64.wrap (pZ q + 1)), vi (pZ (q + 1))), (vb false, vb false), (vb (decide (pZ q ≥ 240)), vb true), (vb (decide (pZ q ≤ 255)), vb true), (vb (decide (pZ q ≤ 255)), vb true)] (by kernel_rfl) ⟨vi_eq (add_eq hq5), rfl, vb_eq h0, vb_eq (le_eq hq5), vb_eq (le_eq hq5), trivial⟩

theorem st_2_16 {x : Int} {q : Nat} (hq5 : q < 255) : RoundOk 2 16 x q := by
  cases h0 : (decide (pZ q ≥ 240)) with
  | false =>
    cases h1 : (decide (pZ q ≥ 224)) with
    | false =>
      exact @round_ok 2 16 x q false [vb true, vb true, vb false, vb false, vb false, vi (pZ (q + 1))] [(vi (IntKind.i64.wrap (pZ q + 1)), vi (pZ (q + 1))), (vb false, vb false), (vb (decide (pZ q ≥ 224)), vb false), (vb (decide (pZ q ≥ 240)), vb false), (vb (decide (pZ q ≤ 255)), vb true), (vb (decide (pZ q ≤ 255)), vb true)] (by kernel_rfl) ⟨vi_eq (add_eq hq5), rfl, vb_eq h1, vb_eq h0, vb_eq (le_eq hq5), vb_eq (le_eq hq5), trivial⟩
    | true =>
      exact @round_ok 2 16 x q false [vb true, vb true, vb false, vb true, vb false, vi (pZ (q + 1))] [(vi (IntKind.i64.wrap (pZ q + 1)), vi (pZ (q + 1))), (vb false, vb false), (vb (decide (pZ q ≥ 224)), vb true), (vb (decide (pZ q ≥ 240)), vb false), (vb (decide (pZ q ≤ 255)), vb true), (vb (decide (pZ q ≤ 255)), vb true)] (by kernel_rfl) ⟨vi_eq (add_eq hq5), rfl, vb_eq h1, vb_eq h0, vb_eq (le_eq hq5), vb_eq (le_eq hq5), trivial⟩
  | true =>
    exact @round_ok 2 16 x q false [vb true, vb true, vb true, vb false, vi (pZ (q + 1))] [(vi (IntKind.i64.wrap (pZ q + 1)), vi (pZ (q + 1))), (vb false, vb false), (vb (decide (pZ q ≥ 240)), vb true), (vb (decide (pZ q ≤ 255)), vb true), (vb (decide (pZ q ≤ 255)), vb true)] (by kernel_rfl) ⟨vi_eq (add_eq hq5), rfl, vb_eq h0, vb_eq (le_eq hq5), vb_eq (le_eq hq5), trivial⟩

theorem st_2_17 {x : Int} {q : Nat} (hq5 : q < 255) : RoundOk 2 17 x q := by
  exact @round_ok 2 17 x q false [vb true, vb true, vb false, vi (pZ (q + 1))] [(vi (IntKind.i64.wrap (pZ q + 1)), vi (pZ (q + 1))), (vb false, vb false), (vb (decide (pZ q ≤ 255)), vb true), (vb (decide (pZ q ≤ 255)), vb true)] (by kernel_rfl) ⟨vi_eq (add_eq hq5), rfl, vb_eq (le_eq hq5), vb_eq (le_eq hq5), trivial⟩

theorem st_2_18 {x : Int} {q : Nat} (hq5 : q < 255) : RoundOk 2 18 x q := by
  cases h0 : (hZ q == 0) with
  | false =>
    cases h1 : (lZ q == 0) with
    | false =>
      exact @round_ok 2 18 x q false [vb true, vb true, vb false, vb false, vb false, vi (pZ (q + 1))] [(vi (IntKind.i64.wrap (pZ q + 1)), vi (pZ (q + 1))), (vb false, vb false), (vb (lZ q == 0), vb false), (vb (hZ q == 0), vb false), (vb (decide (pZ q ≤ 255)), vb true), (vb (decide (pZ q ≤ 255)), vb true)] (by kernel_rfl) ⟨vi_eq (add_eq hq5), rfl, vb_eq h1, vb_eq h0, vb_eq (le_eq hq5), vb_eq (le_eq hq5), trivial⟩
    | true =>
      exact @round_ok 2 18 x q false [vb true, vb true, vb false, vb true, vb false, vi (pZ (q + 1))] [(vi (IntKind.i64.wrap (pZ q + 1)), vi (pZ (q + 1))), (vb false, vb false), (vb (lZ q == 0), vb true), (vb (hZ q == 0), vb false), (vb (decide (pZ q ≤ 255)), vb true), (vb (decide (pZ q ≤ 255)), vb true)] (by kernel_rfl) ⟨vi_eq (add_eq hq5), rfl, vb_eq h1, vb_eq h0, vb_eq (le_eq hq5), vb_eq (le_eq hq5), trivial⟩
  | true =>
    cases h1 : (lZ q == 0) with
    | false =>
      exact @round_ok 2 18 x q false [vb true, vb true, vb true, vb false, vb false, vi (pZ (q + 1))] [(vi (IntKind.i64.wrap (pZ q + 1)), vi (pZ (q + 1))), (vb false, vb false), (vb (lZ q == 0), vb false), (vb (hZ q == 0), vb true), (vb (decide (pZ q ≤ 255)), vb true), (vb (decide (pZ q ≤ 255)), vb true)] (by kernel_rfl) ⟨vi_eq (add_eq hq5), rfl, vb_eq h1, vb_eq h0, vb_eq (le_eq hq5), vb_eq (le_eq hq5), trivial⟩
    | true =>
      exact @round_ok 2 18 x q false [vb true, vb true, vb true, vb true, vb false, vi (pZ (q + 1))] [(vi (IntKind.i64.wrap (pZ q + 1)), vi (pZ (q + 1))), (vb false, vb false), (vb (lZ q == 0), vb true), (vb (hZ q == 0), vb true), (vb (decide (pZ q ≤ 255)), vb true), (vb (decide (pZ q ≤ 255)), vb true)] (by kernel_rfl) ⟨vi_eq (add_eq hq5), rfl, vb_eq h1, vb_eq h0, vb_eq (le_eq hq5), vb_eq (le_eq hq5), trivial⟩

theorem st_2_19 {x : Int} {q : Nat} (hq5 : q < 255) : RoundOk 2 19 x q := by
  exact @round_ok 2 19 x q false [vb true, vb true, vb false, vi (pZ (q + 1))] [(vi (IntKind.i64.wrap (pZ q + 1)), vi (pZ (q + 1))), (vb false, vb false), (vb (decide (pZ q ≤ 255)), vb true), (vb (decide (pZ q ≤ 255)), vb true)] (by kernel_rfl) ⟨vi_eq (add_eq hq5), rfl, vb_eq (le_eq hq5), vb_eq (le_eq hq5), trivial⟩

end Go.Ab
