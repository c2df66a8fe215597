/- What orchestrionlaw09.Effect answers for one dialect, in parts. -/
import Derived.Test.YthbnhmmdafkcfaaGreatFnD
set_option linter.unusedVariables false
set_option linter.unusedSimpArgs false
namespace Go.Ab
open Go.Proofs
set_option maxRecDepth 100000
theorem st_1_1 {x : Int} {q : Nat} (hq5 : q < 255) : RoundOk 1 1 x q := by
  exact @round_ok 1 1 x q false [vb true, vb true, vb false, vi (pZ (q + 1))] [(vi (IntKind.i64.wrap (pZ q + 1)), vi (pZ (q + 1))), (vb false, vb false), (vb (decide (pZ q ≤ 255)), vb true), (vb (decide (pZ q ≤ 255)), vb true)] (by kernel_rfl) ⟨vi_eq (add_eq hq5), rfl, vb_eq (le_eq hq5), vb_eq (le_eq hq5), trivial⟩

theorem st_1_2 {x : Int} {q : Nat} (hq5 : q < 255) : RoundOk 1 2 x q := by
  exact @round_ok 1 2 x q false [vb true, vb true, vb false, vi (pZ (q + 1))] [(vi (IntKind.i64.wrap (pZ q + 1)), vi (pZ (q + 1))), (vb false, vb false), (vb (decide (pZ q ≤ 255)), vb true), (vb (decide (pZ q ≤ 255)), vb true)] (by kernel_rfl) ⟨vi_eq (add_eq hq5), rfl, vb_eq (le_eq hq5), vb_eq (le_eq hq5), trivial⟩

theorem st_1_3 {x : Int} {q : Nat} (hq5 : q < 255) : RoundOk 1 3 x q := by
  exact @round_ok 1 3 x q false [vb true, vb true, vb false, vi (pZ (q + 1))] [(vi (IntKind.i64.wrap (pZ q + 1)), vi (pZ (q + 1))), (vb false, vb false), (vb (decide (pZ q ≤ 255)), vb true), (vb (decide (pZ q ≤ 255)), vb true)] (by kernel_rfl) ⟨vi_eq (add_eq hq5), rfl, vb_eq (le_eq hq5), vb_eq (le_eq hq5), trivial⟩

theorem st_1_4 {x : Int} {q : Nat} (hq5 : q < 255) : RoundOk 1 4 x q := by
  exact @round_ok 1 4 x q false [vb true, vb true, vb false, vi (pZ (q + 1))] [(vi (IntKind.i64.wrap (pZ q + 1)), vi (pZ (q + 1))), (vb false, vb false), (vb (decide (pZ q ≤ 255)), vb true), (vb (decide (pZ q ≤ 255)), vb true)] (by kernel_rfl) ⟨vi_eq (add_eq hq5), rfl, vb_eq (le_eq hq5), vb_eq (le_eq hq5), trivial⟩

theorem st_1_5 {x : Int} {q : Nat} (hq5 : q < 255) : RoundOk 1 5 x q := by
  cases h0 : (hZ q == 0) with
  | false =>
    cases h1 : (lZ q == 0) with
    | false =>
      exact @round_ok 1 5 x q false [vb true, vb true, vb false, vb false, vb false, vi (pZ (q + 1))] [(vi (IntKind.i64.wrap (pZ q + 1)), vi (pZ (q + 1))), (vb false, vb false), (vb (lZ q == 0), vb false), (vb (hZ q == 0), vb false), (vb (decide (pZ q ≤ 255)), vb true), (vb (decide (pZ q ≤ 255)), vb true)] (by kernel_rfl) ⟨vi_eq (add_eq hq5), rfl, vb_eq h1, vb_eq h0, vb_eq (le_eq hq5), vb_eq (le_eq hq5), trivial⟩
    | true =>
      exact @round_ok 1 5 x q false [vb true, vb true, vb false, vb true, vb false, vi (pZ (q + 1))] [(vi (IntKind.i64.wrap (pZ q + 1)), vi (pZ (q + 1))), (vb false, vb false), (vb (lZ q == 0), vb true), (vb (hZ q == 0), vb false), (vb (decide (pZ q ≤ 255)), vb true), (vb (decide (pZ q ≤ 255)), vb true)] (by kernel_rfl) ⟨vi_eq (add_eq hq5), rfl, vb_eq h1, vb_eq h0, vb_eq (le_eq hq5), vb_eq (le_eq hq5), trivial⟩
  | true =>
    cases h1 : (lZ q == 0) with
    | false =>
      exact @round_ok 1 5 x q false [vb true, vb true, vb true, vb false, vb false, vi (pZ (q + 1))] [(vi (IntKind.i64.wrap (pZ q + 1)), vi (pZ (q + 1))), (vb false, vb false), (vb (lZ q == 0), vb false), (vb (hZ q == 0), vb true), (vb (decide (pZ q ≤ 255)), vb true), (vb (decide (pZ q ≤ 255)), vb true)] (by kernel_rfl) ⟨vi_eq (add_eq hq5), rfl, vb_eq h1, vb_eq h0, vb_eq (le_eq hq5), vb_eq (le_eq hq5), trivial⟩
    | true =>
      exact @round_ok 1 5 x q false [vb true, vb true, vb true, vb true, vb false, vi (pZ (q + 1))] [(vi (IntKind.i64.wrap (pZ q + 1)), vi (pZ (q + 1))), (vb false, vb false), (vb (lZ q == 0), vb true), (vb (hZ q == 0), vb true), (vb (decide (pZ q ≤ 255)), vb true), (vb (decide (pZ q ≤ 255)), vb true)] (by kernel_rfl) ⟨vi_eq (add_eq hq5), rfl, vb_eq h1, vb_eq h0, vb_eq (le_eq hq5), vb_eq (le_eq hq5), trivial⟩

theorem st_1_6 {x : Int} {q : Nat} (hq5 : q < 255) : RoundOk 1 6 x q := by
  exact @round_ok 1 6 x q false [vb true, vb true, vb false, vi (pZ (q + 1))] [(vi (IntKind.i64.wrap (pZ q + 1)), vi (pZ (q + 1))), (vb false, vb false), (vb (decide (pZ q ≤ 255)), vb true), (vb (decide (pZ q ≤ 255)), vb true)] (by kernel_rfl) ⟨vi_eq (add_eq hq5), rfl, vb_eq (le_eq hq5), vb_eq (le_eq hq5), trivial⟩

theorem st_1_7 {x : Int} {q : Nat} (hq5 : q < 255) : RoundOk 1 7 x q := by
  exact @round_ok 1 7 x q false [vb true, vb true, vb false, vi (pZ (q + 1))] [(vi (IntKind.i64.wrap (pZ q + 1)), vi (pZ (q + 1))), (vb false, vb false), (vb (decide (pZ q ≤ 255)), vb true), (vb (decide (pZ q ≤ 255)), vb true)] (by kernel_rfl) ⟨vi_eq (add_eq hq5), rfl, vb_eq (le_eq hq5), vb_eq (le_eq hq5), trivial⟩

theorem st_1_8 {x : Int} {q : Nat} (hq5 : q < 255) : RoundOk 1 8 x q := by
  cases h0 : (hZ q == 0) with
  | false =>
    cases h1 : (lZ q == 0) with
    | false =>
      exact @round_ok 1 8 x q false [vb true, vb true, vb false, vb false, vb false, vi (pZ (q + 1))] [(vi (IntKind.i64.wrap (pZ q + 1)), vi (pZ (q + 1))), (vb false, vb false), (vb (lZ q == 0), vb false), (vb (hZ q == 0), vb false), (vb (decide (pZ q ≤ 255)), vb true), (vb (decide (pZ q ≤ 255)), vb true)] (by kernel_rfl) ⟨vi_eq (add_eq hq5), rfl, vb_eq h1, vb_eq h0, vb_eq (le_eq hq5), vb_eq (le_eq hq5), trivial⟩
    | true =>
      exact @round_ok 1 8 x q false [vb true, vb true, vb false, vb true, vb false, vi (pZ (q + 1))] [(vi (IntKind.i64.wrap (pZ q + 1)), vi (pZ (q + 1))), (vb false, vb false), (vb (lZ q == 0), vb true), (vb (hZ q == 0), vb false), (vb (decide (pZ q ≤ 255)), vb true), (vb (decide (pZ q ≤ 255)), vb true)] (by kernel_rfl) ⟨vi_eq (add_eq hq5), rfl, vb_eq h1, vb_eq h0, vb_eq (le_eq hq5), vb_eq (le_eq hq5), trivial⟩
  | true =>
    cases h1 : (lZ q == 0) with
    | false =>
      exact @round_ok 1 8 x q false [vb true, vb true, vb true, vb false, vb false, vi (pZ (q + 1))] [(vi (IntKind.i64.wrap (pZ q + 1)), vi (pZ (q + 1))), (vb false, vb false), (vb (lZ q == 0), vb false), (vb (hZ q == 0), vb true), (vb (decide (pZ q ≤ 255)), vb true), (vb (decide (pZ q ≤ 255)), vb true)] (by kernel_rfl) ⟨vi_eq (add_eq hq5), rfl, vb_eq h1, vb_eq h0, vb_eq (le_eq hq5), vb_eq (le_eq hq5), trivial⟩
    | true =>
      exact @round_ok 1 8 x q false [vb true, vb true, vb true, vb true, vb false, vi (pZ (q + 1))] [(vi (IntKind.i64.wrap (pZ q + 1)), vi (pZ (q + 1))), (vb false, vb false), (vb (lZ q == 0), vb true), (vb (hZ q == 0), vb true), (vb (decide (pZ q ≤ 255)), vb true), (vb (decide (pZ q ≤ 255)), vb true)] (by kernel_rfl) ⟨vi_eq (add_eq hq5), rfl, vb_eq h1, vb_eq h0, vb_eq (le_eq hq5), vb_eq (le_eq hq5), trivial⟩

theorem st_1_9 {x : Int} {q : Nat} (hq5 : q < 255) : RoundOk 1 9 x q := by
  exact @round_ok 1 9 x q false [vb true, vb true, vb false, vi (pZ (q + 1))] [(vi (IntKind.i64.wrap (pZ q + 1)), vi (pZ (q + 1))), (vb false, vb false), (vb (decide (pZ q ≤ 255)), vb true), (vb (decide (pZ q ≤ 255)), vb true)] (by kernel_rfl) ⟨vi_eq (add_eq hq5), rfl, vb_eq (le_eq hq5), vb_eq (le_eq hq5), trivial⟩

theorem st_1_10 {x : Int} {q : Nat} (hq5 : q < 255) : RoundOk 1 10 x q := by
  exact @round_ok 1 10 x q false [vb true, vb true, vb false, vi (pZ (q + 1))] [(vi (IntKind.i64.wrap (pZ q + 1)), vi (pZ (q + 1))), (vb false, vb false), (vb (decide (pZ q ≤ 255)), vb true), (vb (decide (pZ q ≤ 255)), vb true)] (by kernel_rfl) ⟨vi_eq (add_eq hq5), rfl, vb_eq (le_eq hq5), vb_eq (le_eq hq5), trivial⟩

theorem st_1_11 {x : Int} {q : Nat} (hq5 : q < 255) : RoundOk 1 11 x q := by
  exact @round_ok 1 11 x q false [vb true, vb true, vb false, vi (pZ (q + 1))] [(vi (IntKind.i64.wrap (pZ q + 1)), vi (pZ (q + 1))), (vb false, vb false), (vb (decide (pZ q ≤ 255)), vb true), (vb (decide (pZ q ≤ 255)), vb true)] (by kernel_rfl) ⟨vi_eq (add_eq hq5), rfl, vb_eq (le_eq hq5), vb_eq (le_eq hq5), trivial⟩

theorem st_1_12 {x : Int} {q : Nat} (hq5 : q < 255) : RoundOk 1 12 x q := by
  exact @round_ok 1 12 x q false [vb true, vb true, vb false, vi (pZ (q + 1))] [(vi (IntKind.i64.wrap (pZ q + 1)), vi (pZ (q + 1))), (vb false, vb false), (vb (decide (pZ q ≤ 255)), vb true), (vb (decide (pZ q ≤ 255)), vb true)] (by kernel_rfl) ⟨vi_eq (add_eq hq5), rfl, vb_eq (le_eq hq5), vb_eq (le_eq hq5), trivial⟩

theorem st_1_13 {x : Int} {q : Nat} (hq5 : q < 255) : RoundOk 1 13 x q := by
  exact @round_ok 1 13 x q false [vb true, vb true, vb false, vi (pZ (q + 1))] [(vi (IntKind.i64.wrap (pZ q + 1)), vi (pZ (q + 1))), (vb false, vb false), (vb (decide (pZ q ≤ 255)), vb true), (vb (decide (pZ q ≤ 255)), vb true)] (by kernel_rfl) ⟨vi_eq (add_eq hq5), rfl, vb_eq (le_eq hq5), vb_eq (le_eq hq5), trivial⟩

theorem st_1_14 {x : Int} {q : Nat} (hq5 : q < 255) : RoundOk 1 14 x q := by
  exact @round_ok 1 14 x q false [vb true, vb true, vb false, vi (pZ (q + 1))] [(vi (IntKind.i64.wrap (pZ q + 1)), vi (pZ (q + 1))), (vb false, vb false), (vb (decide (pZ q ≤ 255)), vb true), (vb (decide (pZ q ≤ 255)), vb true)] (by kernel_rfl) ⟨vi_eq (add_eq hq5), rfl, vb_eq (le_eq hq5), vb_eq (le_eq hq5), trivial⟩

theorem st_1_15 {x : Nat} (hx : x ≤ 15) {q : Nat} (hq : q + 1 < 96 + x) : RoundOk 1 15 x q := by
  have hq5 : q < 255 := by omega
  have hh := hZ_eq hq5
  have hk : (q + 1) / 16 = 0 ∨ (q + 1) / 16 = 1 ∨ (q + 1) / 16 = 2 ∨ (q + 1) / 16 = 3 ∨ (q + 1) / 16 = 4 ∨ (q + 1) / 16 = 5 ∨ (q + 1) / 16 = 6 := by omega
  rcases hk with hk | hk | hk | hk | hk | hk | hk
  · have hv : hZ q = 0 := by rw [hh, hk]; rfl
    exact @round_ok 1 15 x q true [vb true, vb true, vi 0, vb false, vi (pZ (q + 1))] [(vi (IntKind.i64.wrap (pZ q + 1)), vi (pZ (q + 1))), (vb false, vb false), (vi (hZ q), vi 0), (vb (decide (pZ q ≤ 255)), vb true), (vb (decide (pZ q ≤ 255)), vb true)] (by kernel_rfl) ⟨vi_eq (add_eq hq5), rfl, vi_eq hv, vb_eq (le_eq hq5), vb_eq (le_eq hq5), trivial⟩
  · have hv : hZ q = 1 := by rw [hh, hk]; rfl
    exact @round_ok 1 15 x q true [vb true, vb true, vi 1, vb false, vi (pZ (q + 1))] [(vi (IntKind.i64.wrap (pZ q + 1)), vi (pZ (q + 1))), (vb false, vb false), (vi (hZ q), vi 1), (vb (decide (pZ q ≤ 255)), vb true), (vb (decide (pZ q ≤ 255)), vb true)] (by kernel_rfl) ⟨vi_eq (add_eq hq5), rfl, vi_eq hv, vb_eq (le_eq hq5), vb_eq (le_eq hq5), trivial⟩
  · have hv : hZ q = 2 := by rw [hh, hk]; rfl
    exact @round_ok 1 15 x q true [vb true, vb true, vi 2, vb false, vi (pZ (q + 1))] [(vi (IntKind.i64.wrap (pZ q + 1)), vi (pZ (q + 1))), (vb false, vb false), (vi (hZ q), vi 2), (vb (decide (pZ q ≤ 255)), vb true), (vb (decide (pZ q ≤ 255)), vb true)] (by kernel_rfl) ⟨vi_eq (add_eq hq5), rfl, vi_eq hv, vb_eq (le_eq hq5), vb_eq (le_eq hq5), trivial⟩
  · have hv : hZ q = 3 := by rw [hh, hk]; rfl
    exact @round_ok 1 15 x q true [vb true, vb true, vi 3, vb false, vi (pZ (q + 1))] [(vi (IntKind.i64.wrap (pZ q + 1)), vi (pZ (q + 1))), (vb false, vb false), (vi (hZ q), vi 3), (vb (decide (pZ q ≤ 255)), vb true), (vb (decide (pZ q ≤ 255)), vb true)] (by kernel_rfl) ⟨vi_eq (add_eq hq5), rfl, vi_eq hv, vb_eq (le_eq hq5), vb_eq (le_eq hq5), trivial⟩
  · have hv : hZ q = 4 := by rw [hh, hk]; rfl
    exact @round_ok 1 15 x q true [vb true, vb true, vi 4, vb false, vi (pZ (q + 1))] [(vi (IntKind.i64.wrap (pZ q + 1)), vi (pZ (q + 1))), (vb false, vb false), (vi (hZ q), vi 4), (vb (decide (pZ q ≤ 255)), vb true), (vb (decide (pZ q ≤ 255)), vb true)] (by kernel_rfl) ⟨vi_eq (add_eq hq5), rfl, vi_eq hv, vb_eq (le_eq hq5), vb_eq (le_eq hq5), trivial⟩
  · have hv : hZ q = 5 := by rw [hh, hk]; rfl
    cases h1 : (decide (lZ q ≥ 8)) with
    | false =>
      exact @round_ok 1 15 x q true [vb true, vb true, vi 5, vb false, vb false, vi (pZ (q + 1))] [(vi (IntKind.i64.wrap (pZ q + 1)), vi (pZ (q + 1))), (vb false, vb false), (vb (decide (lZ q ≥ 8)), vb false), (vi (hZ q), vi 5), (vb (decide (pZ q ≤ 255)), vb true), (vb (decide (pZ q ≤ 255)), vb true)] (by kernel_rfl) ⟨vi_eq (add_eq hq5), rfl, vb_eq h1, vi_eq hv, vb_eq (le_eq hq5), vb_eq (le_eq hq5), trivial⟩
    | true =>
      exact @round_ok 1 15 x q true [vb true, vb true, vi 5, vb true, vb false, vi (pZ (q + 1))] [(vi (IntKind.i64.wrap (pZ q + 1)), vi (pZ (q + 1))), (vb false, vb false), (vb (decide (lZ q ≥ 8)), vb true), (vi (hZ q), vi 5), (vb (decide (pZ q ≤ 255)), vb true), (vb (decide (pZ q ≤ 255)), vb true)] (by kernel_rfl) ⟨vi_eq (add_eq hq5), rfl, vb_eq h1, vi_eq hv, vb_eq (le_eq hq5), vb_eq (le_eq hq5), trivial⟩
  · have hv : hZ q = 6 := by rw [hh, hk]; rfl
    have hc : (lZ q == (x : Int)) = false := by
      rw [lZ_eq]
      have := hZ_eq hq5
      simp only [beq_eq_false_iff_ne, ne_eq, Int.ofNat_inj]
      omega
    exact @round_ok 1 15 x q true [vb true, vb true, vi 6, vb false, vi (pZ (q + 1))] [(vi (IntKind.i64.wrap (pZ q + 1)), vi (pZ (q + 1))), (vb (((34 : Int) == 34) && ((lZ q == (x : Int)) && (((0 : Int) == 0) && true))), vb false), (vi (hZ q), vi 6), (vb (decide (pZ q ≤ 255)), vb true), (vb (decide (pZ q ≤ 255)), vb true)] (by kernel_rfl) ⟨vi_eq (add_eq hq5), vb_eq (by rw [hc]; rfl), vi_eq hv, vb_eq (le_eq hq5), vb_eq (le_eq hq5), trivial⟩
theorem hit_1_15 {x : Nat} (hx : x ≤ 15) {q : Nat} (hq : q + 1 = 96 + x) : RoundHit 1 15 x q := by
  have hq5 : q < 255 := by omega
  have hh := hZ_eq hq5
  have hv : hZ q = 6 := by rw [hh, show (q + 1) / 16 = 6 by omega]; rfl
  have hc : (lZ q == (x : Int)) = true := by
    rw [lZ_eq]
    simp only [beq_iff_eq, Int.ofNat_inj]
    omega
  exact @round_hit 1 15 x q true [vb true, vb true, vi 6, vb true] [(vb (((34 : Int) == 34) && ((lZ q == (x : Int)) && (((0 : Int) == 0) && true))), vb true), (vi (hZ q), vi 6), (vb (decide (pZ q ≤ 255)), vb true), (vb (decide (pZ q ≤ 255)), vb true)] (by kernel_rfl) ⟨vb_eq (by rw [hc]; rfl), vi_eq hv, vb_eq (le_eq hq5), vb_eq (le_eq hq5), trivial⟩

theorem st_2_1 {x : Int} {q : Nat} (hq5 : q < 255) : RoundOk 2 1 x q := by
  exact @round_ok 2 1 x q false [vb true, vb true, vb false, vi (pZ (q + 1))] [(vi (IntKind.i64.wrap (pZ q + 1)), vi (pZ (q + 1))), (vb false, vb false), (vb (decide (pZ q ≤ 255)), vb true), (vb (decide (pZ q ≤ 255)), vb true)] (by kernel_rfl) ⟨vi_eq (add_eq hq5), rfl, vb_eq (le_eq hq5), vb_eq (le_eq hq5), trivial⟩

theorem st_2_2 {x : Int} {q : Nat} (hq5 : q < 255) : RoundOk 2 2 x q := by
  exact @round_ok 2 2 x q false [vb true, vb true, vb false, vi (pZ (q + 1))] [(vi (IntKind.i64.wrap (pZ q + 1)), vi (pZ (q + 1))), (vb false, vb false), (vb (decide (pZ q ≤ 255)), vb true), (vb (decide (pZ q ≤ 255)), vb true)] (by kernel_rfl) ⟨vi_eq (add_eq hq5), rfl, vb_eq (le_eq hq5), vb_eq (le_eq hq5), trivial⟩

end Go.Ab
