/- What orchestrionlaw09.Effect answers for one dialect, in parts. -/
import Derived.Test.YthbnhmmdafkcfaaGreatFnD
set_option linter.unusedVariables false
set_option linter.unusedSimpArgs false
namespace Go.Ab
open Go.Proofs
set_option maxRecDepth 100000


theorem st_4_1 {x : Int} {q : Nat} (hq5 : q < 255) : RoundOk 4 1 x q := by
  exact @round_ok 4 1 x q false [vb true, vb true, vb false, vi (pZ (q + 1))] [(vi (IntKind.i64.wrap (pZ q + 1)), vi (pZ (q + 1))), (vb false, vb false), (vb (decide (pZ q ≤ 255)), vb true), (vb (decide (pZ q ≤ 255)), vb true)] (by kernel_rfl) ⟨vi_eq (add_eq hq5), rfl, vb_eq (le_eq hq5), vb_eq (le_eq hq5), trivial⟩



theorem st_4_2 {x : Int} {q : Nat} (hq5 : q < 255) : RoundOk 4 2 x q := by
  exact @round_ok 4 2 x q false [vb true, vb true, vb false, vi (pZ (q + 1))] [(vi (IntKind.i64.wrap (pZ q + 1)), vi (pZ (q + 1))), (vb false, vb false), (vb (decide (pZ q ≤ 255)), vb true), (vb (decide (pZ q ≤ 255)), vb true)] (by kernel_rfl) ⟨vi_eq (add_eq hq5), rfl, vb_eq (le_eq hq5), vb_eq (le_eq hq5), trivial⟩



theorem st_4_3 {x : Int} {q : Nat} (hq5 : q < 255) : RoundOk 4 3 x q := by
  exact @round_ok 4 3 x q false [vb true, vb true, vb false, vi (pZ (q + 1))] [(vi (IntKind.i64.wrap (pZ q + 1)), vi (pZ (q + 1))), (vb false, vb false), (vb (decide (pZ q ≤ 255)), vb true), (vb (decide (pZ q ≤ 255)), vb true)] (by kernel_rfl) ⟨vi_eq (add_eq hq5), rfl, vb_eq (le_eq hq5), vb_eq (le_eq hq5), trivial⟩



theorem st_4_4 {x : Int} {q : Nat} (hq5 : q < 255) : RoundOk 4 4 x q := by
  exact @round_ok 4 4 x q false [vb true, vb true, vb false, vi (pZ (q + 1))] [(vi (IntKind.i64.wrap (pZ q + 1)), vi (pZ (q + 1))), (vb false, vb false), (vb (decide (pZ q ≤ 255)), vb true), (vb (decide (pZ q ≤ 255)), vb true)] (by kernel_rfl) ⟨vi_eq (add_eq hq5), rfl, vb_eq (le_eq hq5), vb_eq (le_eq hq5), trivial⟩



theorem st_4_5 {x : Int} {q : Nat} (hq5 : q < 255) : RoundOk 4 5 x q := by
  exact @round_ok 4 5 x q false [vb true, vb true, vb false, vi (pZ (q + 1))] [(vi (IntKind.i64.wrap (pZ q + 1)), vi (pZ (q + 1))), (vb false, vb false), (vb (decide (pZ q ≤ 255)), vb true), (vb (decide (pZ q ≤ 255)), vb true)] (by kernel_rfl) ⟨vi_eq (add_eq hq5), rfl, vb_eq (le_eq hq5), vb_eq (le_eq hq5), trivial⟩



theorem st_4_6 {x : Int} {q : Nat} (hq5 : q < 255) : RoundOk 4 6 x q := by
  exact @round_ok 4 6 x q false [vb true, vb true, vb false, vi (pZ (q + 1))] [(vi (IntKind.i64.wrap (pZ q + 1)), vi (pZ (q + 1))), (vb false, vb false), (vb (decide (pZ q ≤ 255)), vb true), (vb (decide (pZ q ≤ 255)), vb true)] (by kernel_rfl) ⟨vi_eq (add_eq hq5), rfl, vb_eq (le_eq hq5), vb_eq (le_eq hq5), trivial⟩



theorem st_4_7 {x : Int} {q : Nat} (hq5 : q < 255) : RoundOk 4 7 x q := by
  exact @round_ok 4 7 x q false [vb true, vb true, vb false, vi (pZ (q + 1))] [(vi (IntKind.i64.wrap (pZ q + 1)), vi (pZ (q + 1))), (vb false, vb false), (vb (decide (pZ q ≤ 255)), vb true), (vb (decide (pZ q ≤ 255)), vb true)] (by kernel_rfl) ⟨vi_eq (add_eq hq5), rfl, vb_eq (le_eq hq5), vb_eq (le_eq hq5), trivial⟩



theorem st_4_8 {x : Int} {q : Nat} (hq5 : q < 255) : RoundOk 4 8 x q := by
  exact @round_ok 4 8 x q false [vb true, vb true, vb false, vi (pZ (q + 1))] [(vi (IntKind.i64.wrap (pZ q + 1)), vi (pZ (q + 1))), (vb false, vb false), (vb (decide (pZ q ≤ 255)), vb true), (vb (decide (pZ q ≤ 255)), vb true)] (by kernel_rfl) ⟨vi_eq (add_eq hq5), rfl, vb_eq (le_eq hq5), vb_eq (le_eq hq5), trivial⟩



theorem st_4_9 {x : Int} {q : Nat} (hq5 : q < 255) : RoundOk 4 9 x q := by
  exact @round_ok 4 9 x q false [vb true, vb true, vb false, vi (pZ (q + 1))] [(vi (IntKind.i64.wrap (pZ q + 1)), vi (pZ (q + 1))), (vb false, vb false), (vb (decide (pZ q ≤ 255)), vb true), (vb (decide (pZ q ≤ 255)), vb true)] (by kernel_rfl) ⟨vi_eq (add_eq hq5), rfl, vb_eq (le_eq hq5), vb_eq (le_eq hq5), trivial⟩



theorem st_4_10 {x : Int} {q : Nat} (hq5 : q < 255) : RoundOk 4 10 x q := by
  exact @round_ok 4 10 x q false [vb true, vb true, vb false, vi (pZ (q + 1))] [(vi (IntKind.i64.wrap (pZ q + 1)), vi (pZ (q + 1))), (vb false, vb false), (vb (decide (pZ q ≤ 255)), vb true), (vb (decide (pZ q ≤ 255)), vb true)] (by kernel_rfl) ⟨vi_eq (add_eq hq5), rfl, vb_eq (le_eq hq5), vb_eq (le_eq hq5), trivial⟩



theorem st_4_11 {x : Int} {q : Nat} (hq5 : q < 255) : RoundOk 4 11 x q := by
  exact @round_ok 4 11 x q false [vb true, vb true, vb false, vi (pZ (q + 1))] [(vi (IntKind.i64.wrap (pZ q + 1)), vi (pZ (q + 1))), (vb false, vb false), (vb (decide (pZ q ≤ 255)), vb true), (vb (decide (pZ q ≤ 255)), vb true)] (by kernel_rfl) ⟨vi_eq (add_eq hq5), rfl, vb_eq (le_eq hq5), vb_eq (le_eq hq5), trivial⟩



theorem st_4_12 {x : Int} {q : Nat} (hq5 : q < 255) : RoundOk 4 12 x q := by
  exact @round_ok 4 12 x q false [vb true, vb true, vb false, vi (pZ (q + 1))] [(vi (IntKind.i64.wrap (pZ q + 1)), vi (pZ (q + 1))), (vb false, vb false), (vb (decide (pZ q ≤ 255)), vb true), (vb (decide (pZ q ≤ 255)), vb true)] (by kernel_rfl) ⟨vi_eq (add_eq hq5), rfl, vb_eq (le_eq hq5), vb_eq (le_eq hq5), trivial⟩



theorem st_4_13 {x : Int} {q : Nat} (hq5 : q < 255) : RoundOk 4 13 x q := by
  exact @round_ok 4 13 x q false [vb true, vb true, vb false, vi (pZ (q + 1))] [(vi (IntKind.i64.wrap (pZ q + 1)), vi (pZ (q + 1))), (vb false, vb false), (vb (decide (pZ q ≤ 255)), vb true), (vb (decide (pZ q ≤ 255)), vb true)] (by kernel_rfl) ⟨vi_eq (add_eq hq5), rfl, vb_eq (le_eq hq5), vb_eq (le_eq hq5), trivial⟩



theorem st_4_14 {x : Int} {q : Nat} (hq5 : q < 255) : RoundOk 4 14 x q := by
  cases h0 : (lZ q == 15) with
  | false =>
    cases h1 : (hZ q == 15) with
    | false =>
      exact @round_ok 4 14 x q false [vb true, vb true, vb false, vb false, vb false, vi (pZ (q + 1))] [(vi (IntKind.i64.wrap (pZ q + 1)), vi (pZ (q + 1))), (vb false, vb false), (vb (hZ q == 15), vb false), (vb (lZ q == 15), vb false), (vb (decide (pZ q ≤ 255)), vb true), (vb (decide (pZ q ≤ 255)), vb true)] (by kernel_rfl) ⟨vi_eq (add_eq hq5), rfl, vb_eq h1, vb_eq h0, vb_eq (le_eq hq5), vb_eq (le_eq hq5), trivial⟩
    | true =>
      cases h2 : (lZ q != 0) with
      | false =>
        exact @round_ok 4 14 x q false [vb true, vb true, vb false, vb true, vb false, vb false, vi (pZ (q + 1))] [(vi (IntKind.i64.wrap (pZ q + 1)), vi (pZ (q + 1))), (vb false, vb false), (vb (lZ q != 0), vb false), (vb (hZ q == 15), vb true), (vb (lZ q == 15), vb false), (vb (decide (pZ q ≤ 255)), vb true), (vb (decide (pZ q ≤ 255)), vb true)] (by kernel_rfl) ⟨vi_eq (add_eq hq5), rfl, vb_eq h2, vb_eq h1, vb_eq h0, vb_eq (le_eq hq5), vb_eq (le_eq hq5), trivial⟩
      | true =>
        exact @round_ok 4 14 x q false [vb true, vb true, vb false, vb true, vb true, vb false, vi (pZ (q + 1))] [(vi (IntKind.i64.wrap (pZ q + 1)), vi (pZ (q + 1))), (vb false, vb false), (vb (lZ q != 0), vb true), (vb (hZ q == 15), vb true), (vb (lZ q == 15), vb false), (vb (decide (pZ q ≤ 255)), vb true), (vb (decide (pZ q ≤ 255)), vb true)] (by kernel_rfl) ⟨vi_eq (add_eq hq5), rfl, vb_eq h2, vb_eq h1, vb_eq h0, vb_eq (le_eq hq5), vb_eq (le_eq hq5), trivial⟩
  | true =>
    cases h1 : (hZ q != 0) with
    | false =>
      cases h2 : (hZ q == 15) with
      | false =>
        exact @round_ok 4 14 x q false [vb true, vb true, vb true, vb false, vb false, vb false, vi (pZ (q + 1))] [(vi (IntKind.i64.wrap (pZ q + 1)), vi (pZ (q + 1))), (vb false, vb false), (vb (hZ q == 15), vb false), (vb (hZ q != 0), vb false), (vb (lZ q == 15), vb true), (vb (decide (pZ q ≤ 255)), vb true), (vb (decide (pZ q ≤ 255)), vb true)] (by kernel_rfl) ⟨vi_eq (add_eq hq5), rfl, vb_eq h2, vb_eq h1, vb_eq h0, vb_eq (le_eq hq5), vb_eq (le_eq hq5), trivial⟩
      | true =>
        cases h3 : (lZ q != 0) with
        | false =>
          exact @round_ok 4 14 x q false [vb true, vb true, vb true, vb false, vb true, vb false, vb false, vi (pZ (q + 1))] [(vi (IntKind.i64.wrap (pZ q + 1)), vi (pZ (q + 1))), (vb false, vb false), (vb (lZ q != 0), vb false), (vb (hZ q == 15), vb true), (vb (hZ q != 0), vb false), (vb (lZ q == 15), vb true), (vb (decide (pZ q ≤ 255)), vb true), (vb (decide (pZ q ≤ 255)), vb true)] (by kernel_rfl) ⟨vi_eq (add_eq hq5), rfl, vb_eq h3, vb_eq h2, vb_eq h1, vb_eq h0, vb_eq (le_eq hq5), vb_eq (le_eq hq5), trivial⟩
        | true =>
          exact @round_ok 4 14 x q false [vb true, vb true, vb true, vb false, vb true, vb true, vb false, vi (pZ (q + 1))] [(vi (IntKind.i64.wrap (pZ q + 1)), vi (pZ (q + 1))), (vb false, vb false), (vb (lZ q != 0), vb true), (vb (hZ q == 15), vb true), (vb (hZ q != 0), vb false), (vb (lZ q == 15), vb true), (vb (decide (pZ q ≤ 255)), vb true), (vb (decide (pZ q ≤ 255)), vb true)] (by kernel_rfl) ⟨vi_eq (add_eq hq5), rfl, vb_eq h3, vb_eq h2, vb_eq h1, vb_eq h0, vb_eq (le_eq hq5), vb_eq (le_eq hq5), trivial⟩
    | true =>
      exact @round_ok 4 14 x q false [vb true, vb true, vb true, vb true, vb false, vi (pZ (q + 1))] [(vi (IntKind.i64.wrap (pZ q + 1)), vi (pZ (q + 1))), (vb false, vb false), (vb (hZ q != 0), vb true), (vb (lZ q == 15), vb true), (vb (decide (pZ q ≤ 255)), vb true), (vb (decide (pZ q ≤ 255)), vb true)] (by kernel_rfl) ⟨vi_eq (add_eq hq5), rfl, vb_eq h1, vb_eq h0, vb_eq (le_eq hq5), vb_eq (le_eq hq5), trivial⟩



theorem st_4_15 {x : Int} {q : Nat} (hq5 : q < 255) : RoundOk 4 15 x q := by
  cases h0 : (decide (pZ q ≥ 240)) with
  | false =>
    cases h1 : (decide (pZ q ≥ 224)) with
    | false =>
      exact @round_ok 4 15 x q false [vb true, vb true, vb false, vb false, vb false, vi (pZ (q + 1))] [(vi (IntKind.i64.wrap (pZ q + 1)), vi (pZ (q + 1))), (vb false, vb false), (vb (decide (pZ q ≥ 224)), vb false), (vb (decide (pZ q ≥ 240)), vb false), (vb (decide (pZ q ≤ 255)), vb true), (vb (decide (pZ q ≤ 255)), vb true)] (by kernel_rfl) ⟨vi_eq (add_eq hq5), rfl, vb_eq h1, vb_eq h0, vb_eq (le_eq hq5), vb_eq (le_eq hq5), trivial⟩
    | true =>
      exact @round_ok 4 15 x q false [vb true, vb true, vb false, vb true, vb false, vi (pZ (q + 1))] [(vi (IntKind.i64.wrap (pZ q + 1)), vi (pZ (q + 1))), (vb false, vb false), (vb (decide (pZ q ≥ 224)), vb true), (vb (decide (pZ q ≥ 240)), vb false), (vb (decide (pZ q ≤ 255)), vb true), (vb (decide (pZ q ≤ 255)), vb true)] (by kernel_rfl) ⟨vi_eq (add_eq hq5), rfl, vb_eq h1, vb_eq h0, vb_eq (le_eq hq5), vb_eq (le_eq hq5), trivial⟩
  | true =>
    exact @round_ok 4 15 x q false [vb true, vb true, vb true, vb false, vi (pZ (q + 1))] [(vi (IntKind.i64.wrap (pZ q + 1)), vi (pZ (q + 1))), (vb false, vb false), (vb (decide (pZ q ≥ 240)), vb true), (vb (decide (pZ q ≤ 255)), vb true), (vb (decide (pZ q ≤ 255)), vb true)] (by kernel_rfl) ⟨vi_eq (add_eq hq5), rfl, vb_eq h0, vb_eq (le_eq hq5), vb_eq (le_eq hq5), trivial⟩



theorem st_4_16 {x : Int} {q : Nat} (hq5 : q < 255) : RoundOk 4 16 x q := by
  cases h0 : (decide (pZ q ≥ 240)) with
  | false =>
    cases h1 : (decide (pZ q ≥ 224)) with
    | false =>
      exact @round_ok 4 16 x q false [vb true, vb true, vb false, vb false, vb false, vi (pZ (q + 1))] [(vi (IntKind.i64.wrap (pZ q + 1)), vi (pZ (q + 1))), (vb false, vb false), (vb (decide (pZ q ≥ 224)), vb false), (vb (decide (pZ q ≥ 240)), vb false), (vb (decide (pZ q ≤ 255)), vb true), (vb (decide (pZ q ≤ 255)), vb true)] (by kernel_rfl) ⟨vi_eq (add_eq hq5), rfl, vb_eq h1, vb_eq h0, vb_eq (le_eq hq5), vb_eq (le_eq hq5), trivial⟩
    | true =>
      exact @round_ok 4 16 x q false [vb true, vb true, vb false, vb true, vb false, vi (pZ (q + 1))] [(vi (IntKind.i64.wrap (pZ q + 1)), vi (pZ (q + 1))), (vb false, vb false), (vb (decide (pZ q ≥ 224)), vb true), (vb (decide (pZ q ≥ 240)), vb false), (vb (decide (pZ q ≤ 255)), vb true), (vb (decide (pZ q ≤ 255)), vb true)] (by kernel_rfl) ⟨vi_eq (add_eq hq5), rfl, vb_eq h1, vb_eq h0, vb_eq (le_eq hq5), vb_eq (le_eq hq5), trivial⟩
  | true =>
    exact @round_ok 4 16 x q false [vb true, vb true, vb true, vb false, vi (pZ (q + 1))] [(vi (IntKind.i64.wrap (pZ q + 1)), vi (pZ (q + 1))), (vb false, vb false), (vb (decide (pZ q ≥ 240)), vb true), (vb (decide (pZ q ≤ 255)), vb true), (vb (decide (pZ q ≤ 255)), vb true)] (by kernel_rfl) ⟨vi_eq (add_eq hq5), rfl, vb_eq h0, vb_eq (le_eq hq5), vb_eq (le_eq hq5), trivial⟩



theorem st_4_17 {x : Int} {q : Nat} (hq5 : q < 255) : RoundOk 4 17 x q := by
  exact @round_ok 4 17 x q false [vb true, vb true, vb false, vi (pZ (q + 1))] [(vi (IntKind.i64.wrap (pZ q + 1)), vi (pZ (q + 1))), (vb false, vb false), (vb (decide (pZ q ≤ 255)), vb true), (vb (decide (pZ q ≤ 255)), vb true)] (by kernel_rfl) ⟨vi_eq (add_eq hq5), rfl, vb_eq (le_eq hq5), vb_eq (le_eq hq5), trivial⟩



theorem st_4_18 {x : Int} {q : Nat} (hq5 : q < 255) : RoundOk 4 18 x q := by
  cases h0 : (hZ q == 0) with
  | false =>
    cases h1 : (lZ q == 0) with
    | false =>
      exact @round_ok 4 18 x q false [vb true, vb true, vb false, vb false, vb false, vi (pZ (q + 1))] [(vi (IntKind.i64.wrap (pZ q + 1)), vi (pZ (q + 1))), (vb false, vb false), (vb (lZ q == 0), vb false), (vb (hZ q == 0), vb false), (vb (decide (pZ q ≤ 255)), vb true), (vb (decide (pZ q ≤ 255)), vb true)] (by kernel_rfl) ⟨vi_eq (add_eq hq5), rfl, vb_eq h1, vb_eq h0, vb_eq (le_eq hq5), vb_eq (le_eq hq5), trivial⟩
    | true =>
      exact @round_ok 4 18 x q false [vb true, vb true, vb false, vb true, vb false, vi (pZ (q + 1))] [(vi (IntKind.i64.wrap (pZ q + 1)), vi (pZ (q + 1))), (vb false, vb false), (vb (lZ q == 0), vb true), (vb (hZ q == 0), vb false), (vb (decide (pZ q ≤ 255)), vb true), (vb (decide (pZ q ≤ 255)), vb true)] (by kernel_rfl) ⟨vi_eq (add_eq hq5), rfl, vb_eq h1, vb_eq h0, vb_eq (le_eq hq5), vb_eq (le_eq hq5), trivial⟩
  | true =>
    cases h1 : (lZ q == 0) with
    | false =>
      exact @round_ok 4 18 x q false [vb true, vb true, vb true, vb false, vb false, vi (pZ (q + 1))] [(vi (IntKind.i64.wrap (pZ q + 1)), vi (pZ (q + 1))), (vb false, vb false), (vb (lZ q == 0), vb false), (vb (hZ q == 0), vb true), (vb (decide (pZ q ≤ 255)), vb true), (vb (decide (pZ q ≤ 255)), vb true)] (by kernel_rfl) ⟨vi_eq (add_eq hq5), rfl, vb_eq h1, vb_eq h0, vb_eq (le_eq hq5), vb_eq (le_eq hq5), trivial⟩
    | true =>
      exact @round_ok 4 18 x q false [vb true, vb true, vb true, vb true, vb false, vi (pZ (q + 1))] [(vi (IntKind.i64.wrap (pZ q + 1)), vi (pZ (q + 1))), (vb false, vb false), (vb (lZ q == 0), vb true), (vb (hZ q == 0), vb true), (vb (decide (pZ q ≤ 255)), vb true), (vb (decide (pZ q ≤ 255)), vb true)] (by kernel_rfl) ⟨vi_eq (add_eq hq5), rfl, vb_eq h1, vb_eq h0, vb_eq (le_eq hq5), vb_eq (le_eq hq5), trivial⟩

end Go.Ab
