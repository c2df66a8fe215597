/- What gear.Row and the functions about a row answer on the song of the law. -/
import Derived.Test.YthbnhmmdafkcfaaGreatRowA
import Derived.Test.YthbnhmmdafkcfaaGreatRowB
set_option linter.unusedVariables false
set_option linter.unusedSimpArgs false
namespace Go.Ab
open Go.Proofs
set_option maxRecDepth 100000

theorem mod_b {b x : Nat} (hb : b = 16 * 6 ∨ b = 16 * 11) (hx : x ≤ 15) : Int.tmod ((x + b : Nat) : Int) 16 = (x : Int) := by
  rw [show Int.tmod ((x + b : Nat) : Int) 16 = (((x + b) % 16 : Nat) : Int) from rfl]
  congr 1
  omega
theorem div_b {b h x : Nat} (hb : b = 16 * h ∧ h ≤ 11) (hx : x ≤ 15) : IntKind.i64.wrap (Int.tdiv ((x + b : Nat) : Int) 16) = (h : Int) := by
  rw [show Int.tdiv ((x + b : Nat) : Int) 16 = (((x + b) / 16 : Nat) : Int) from rfl]
  rw [show (x + b) / 16 = h by omega]
  unfold IntKind.wrap
  simp [IntKind.bits, IntKind.signed]
  omega

/-! ### Table.Resolve of the cells of a loop -/
def FR : FuncId → Tmp → Bool := fun K t => match K with
  | 66 => [9, 11].contains t
  | 144 => t == 8
  | _ => false

theorem res_1 {x : Nat} (hx : x ≤ 15) : Callable Tryz.prog 16 ∧ Run Tryz.prog 16 [.agg [iv 1, .mp 0], memK 1 0, .agg (cellC 15 ((x + 96 : Nat) : Int))] opH1 (.tup [.row opH1.length 0 1 1, memK 1 0, iv 0]) (opH1 ++ [.cells 38 [[iv 34, iv (x : Int), iv 0]] false]) :=
  run_of_vN X1_sound (cOr_sound (cOne_sound (vm_1 (v := 0) (by omega) (by omega))) (cOne_sound (vc29_1 (p := ((x + 96 : Nat) : Int)) (by omega) (by omega)))) (F := FR) (n := 30) (ds := [(iv 6, []), (iv (x : Int), [])])
    (rec := [iv (Int.tmod ((x + 96 : Nat) : Int) 16) = iv (x : Int), iv (IntKind.i64.wrap (Int.tdiv ((x + 96 : Nat) : Int) 16)) = iv 6, [iv 1, V.agg (cellC 15 ((x + 96 : Nat) : Int))] = [iv 1, V.agg (cellC 15 ((x + 96 : Nat) : Int))] ∧ ([] : H) = [], [memK 1 0] = [memK 1 0] ∧ ([] : H) = []]) (by kernel_rfl) ⟨iv_eq (mod_b (by omega) hx), iv_eq (div_b (h := 6) (by omega) hx), ⟨rfl, rfl⟩, ⟨rfl, rfl⟩, trivial⟩
theorem res_1_0 : Callable Tryz.prog 16 ∧ Run Tryz.prog 16 [.agg [iv 1, .mp 0], memK 1 0, .agg (cellC 0 0)] opH1 (.tup [nilS, memK 1 0, iv 0]) opH1 :=
  run_of_vN X1_sound (cOr_sound (cOne_sound (vm_1 (v := 0) (by omega) (by omega))) (cOne_sound vc29_1_0)) (F := fun _ _ => false) (n := 30) (ds := [])
    (rec := [[iv 1, V.agg (cellC 0 0)] = [iv 1, V.agg (cellC 0 0)] ∧ ([] : H) = [], [memK 1 0] = [memK 1 0] ∧ ([] : H) = []]) (by kernel_rfl) ⟨⟨rfl, rfl⟩, ⟨rfl, rfl⟩, trivial⟩

theorem res_3 {x : Nat} (hx : x ≤ 15) : Callable Tryz.prog 16 ∧ Run Tryz.prog 16 [.agg [iv 3, .mp 0], memK 1 0, .agg (cellC 15 ((x + 96 : Nat) : Int))] opH3 (.tup [.row opH3.length 0 1 1, memK 1 0, iv 0]) (opH3 ++ [.cells 38 [[iv 34, iv (x : Int), iv 0]] false]) :=
  run_of_vN X1_sound (cOr_sound (cOne_sound (vm_1 (v := 0) (by omega) (by omega))) (cOne_sound (vc29_3 (p := ((x + 96 : Nat) : Int)) (by omega) (by omega)))) (F := FR) (n := 30) (ds := [(iv 6, []), (iv (x : Int), [])])
    (rec := [iv (Int.tmod ((x + 96 : Nat) : Int) 16) = iv (x : Int), iv (IntKind.i64.wrap (Int.tdiv ((x + 96 : Nat) : Int) 16)) = iv 6, [iv 3, V.agg (cellC 15 ((x + 96 : Nat) : Int))] = [iv 3, V.agg (cellC 15 ((x + 96 : Nat) : Int))] ∧ ([] : H) = [], [memK 1 0] = [memK 1 0] ∧ ([] : H) = []]) (by kernel_rfl) ⟨iv_eq (mod_b (by omega) hx), iv_eq (div_b (h := 6) (by omega) hx), ⟨rfl, rfl⟩, ⟨rfl, rfl⟩, trivial⟩
theorem res_3_0 : Callable Tryz.prog 16 ∧ Run Tryz.prog 16 [.agg [iv 3, .mp 0], memK 1 0, .agg (cellC 0 0)] opH3 (.tup [nilS, memK 1 0, iv 0]) opH3 :=
  run_of_vN X1_sound (cOr_sound (cOne_sound (vm_1 (v := 0) (by omega) (by omega))) (cOne_sound vc29_3_0)) (F := fun _ _ => false) (n := 30) (ds := [])
    (rec := [[iv 3, V.agg (cellC 0 0)] = [iv 3, V.agg (cellC 0 0)] ∧ ([] : H) = [], [memK 1 0] = [memK 1 0] ∧ ([] : H) = []]) (by kernel_rfl) ⟨⟨rfl, rfl⟩, ⟨rfl, rfl⟩, trivial⟩

theorem res_6 {x : Nat} (hx : x ≤ 15) : Callable Tryz.prog 16 ∧ Run Tryz.prog 16 [.agg [iv 6, .mp 0], memK 1 0, .agg (cellC 15 ((x + 96 : Nat) : Int))] opH6 (.tup [.row opH6.length 0 1 1, memK 1 0, iv 0]) (opH6 ++ [.cells 38 [[iv 34, iv (x : Int), iv 0]] false]) :=
  run_of_vN X1_sound (cOr_sound (cOne_sound (vm_1 (v := 0) (by omega) (by omega))) (cOne_sound (vc29_6 (p := ((x + 96 : Nat) : Int)) (by omega) (by omega)))) (F := FR) (n := 30) (ds := [(iv 6, []), (iv (x : Int), [])])
    (rec := [iv (Int.tmod ((x + 96 : Nat) : Int) 16) = iv (x : Int), iv (IntKind.i64.wrap (Int.tdiv ((x + 96 : Nat) : Int) 16)) = iv 6, [iv 6, V.agg (cellC 15 ((x + 96 : Nat) : Int))] = [iv 6, V.agg (cellC 15 ((x + 96 : Nat) : Int))] ∧ ([] : H) = [], [memK 1 0] = [memK 1 0] ∧ ([] : H) = []]) (by kernel_rfl) ⟨iv_eq (mod_b (by omega) hx), iv_eq (div_b (h := 6) (by omega) hx), ⟨rfl, rfl⟩, ⟨rfl, rfl⟩, trivial⟩
theorem res_6_0 : Callable Tryz.prog 16 ∧ Run Tryz.prog 16 [.agg [iv 6, .mp 0], memK 1 0, .agg (cellC 0 0)] opH6 (.tup [nilS, memK 1 0, iv 0]) opH6 :=
  run_of_vN X1_sound (cOr_sound (cOne_sound (vm_1 (v := 0) (by omega) (by omega))) (cOne_sound vc29_6_0)) (F := fun _ _ => false) (n := 30) (ds := [])
    (rec := [[iv 6, V.agg (cellC 0 0)] = [iv 6, V.agg (cellC 0 0)] ∧ ([] : H) = [], [memK 1 0] = [memK 1 0] ∧ ([] : H) = []]) (by kernel_rfl) ⟨⟨rfl, rfl⟩, ⟨rfl, rfl⟩, trivial⟩

theorem res_2 {v : Int} (hv0 : 0 ≤ v) (hv1 : v ≤ 255) {x : Nat} (hx : x ≤ 15) : Callable Tryz.prog 16 ∧ Run Tryz.prog 16 [.agg [iv 2, .mp 0], memK 1 v, .agg (cellC 29 ((x + 176 : Nat) : Int))] opH2 (.tup [.row opH2.length 0 1 1, memK 1 ((x + 176 : Nat) : Int), iv 0]) (opH2 ++ [.cells 38 [[iv 34, iv (x : Int), iv 0]] false]) :=
  run_of_vN X1_sound (cOr_sound (cOne_sound (vm_1 hv0 hv1)) (cOne_sound (vc29_2 (p := ((x + 176 : Nat) : Int)) (by omega) (by omega)))) (F := FR) (n := 30) (ds := [(iv 11, []), (iv (x : Int), []), (bv false, [])])
    (rec := [bv (((x + 176 : Nat) : Int) == 0) = bv false, iv (Int.tmod ((x + 176 : Nat) : Int) 16) = iv (x : Int), iv (IntKind.i64.wrap (Int.tdiv ((x + 176 : Nat) : Int) 16)) = iv 11, [iv 2, V.agg (cellC 29 ((x + 176 : Nat) : Int))] = [iv 2, V.agg (cellC 29 ((x + 176 : Nat) : Int))] ∧ ([] : H) = [], [memK 1 v] = [memK 1 v] ∧ ([] : H) = []]) (by kernel_rfl) ⟨bv_eq (eqf (by omega)), iv_eq (mod_b (by omega) hx), iv_eq (div_b (h := 11) (by omega) hx), ⟨rfl, rfl⟩, ⟨rfl, rfl⟩, trivial⟩
theorem res_2_0 {v : Int} (hv0 : 0 ≤ v) (hv1 : v ≤ 255) : Callable Tryz.prog 16 ∧ Run Tryz.prog 16 [.agg [iv 2, .mp 0], memK 1 v, .agg (cellC 0 0)] opH2 (.tup [nilS, memK 1 v, iv 0]) opH2 :=
  run_of_vN X1_sound (cOr_sound (cOne_sound (vm_1 hv0 hv1)) (cOne_sound vc29_2_0)) (F := fun _ _ => false) (n := 30) (ds := [])
    (rec := [[iv 2, V.agg (cellC 0 0)] = [iv 2, V.agg (cellC 0 0)] ∧ ([] : H) = [], [memK 1 v] = [memK 1 v] ∧ ([] : H) = []]) (by kernel_rfl) ⟨⟨rfl, rfl⟩, ⟨rfl, rfl⟩, trivial⟩

theorem res_4 {v : Int} (hv0 : 0 ≤ v) (hv1 : v ≤ 255) {x : Nat} (hx : x ≤ 15) : Callable Tryz.prog 16 ∧ Run Tryz.prog 16 [.agg [iv 4, .mp 0], memK 12 v, .agg (cellC 29 ((x + 176 : Nat) : Int))] opH4 (.tup [.row opH4.length 0 1 1, memK 12 ((x + 176 : Nat) : Int), iv 0]) (opH4 ++ [.cells 38 [[iv 34, iv (x : Int), iv 0]] false]) :=
  run_of_vN X1_sound (cOr_sound (cOne_sound (vm_12 hv0 hv1)) (cOne_sound (vc29_4 (p := ((x + 176 : Nat) : Int)) (by omega) (by omega)))) (F := FR) (n := 30) (ds := [(iv 11, []), (iv (x : Int), []), (bv false, [])])
    (rec := [bv (((x + 176 : Nat) : Int) == 0) = bv false, iv (Int.tmod ((x + 176 : Nat) : Int) 16) = iv (x : Int), iv (IntKind.i64.wrap (Int.tdiv ((x + 176 : Nat) : Int) 16)) = iv 11, [iv 4, V.agg (cellC 29 ((x + 176 : Nat) : Int))] = [iv 4, V.agg (cellC 29 ((x + 176 : Nat) : Int))] ∧ ([] : H) = [], [memK 12 v] = [memK 12 v] ∧ ([] : H) = []]) (by kernel_rfl) ⟨bv_eq (eqf (by omega)), iv_eq (mod_b (by omega) hx), iv_eq (div_b (h := 11) (by omega) hx), ⟨rfl, rfl⟩, ⟨rfl, rfl⟩, trivial⟩
theorem res_4_0 {v : Int} (hv0 : 0 ≤ v) (hv1 : v ≤ 255) : Callable Tryz.prog 16 ∧ Run Tryz.prog 16 [.agg [iv 4, .mp 0], memK 12 v, .agg (cellC 0 0)] opH4 (.tup [nilS, memK 12 v, iv 0]) opH4 :=
  run_of_vN X1_sound (cOr_sound (cOne_sound (vm_12 hv0 hv1)) (cOne_sound vc29_4_0)) (F := fun _ _ => false) (n := 30) (ds := [])
    (rec := [[iv 4, V.agg (cellC 0 0)] = [iv 4, V.agg (cellC 0 0)] ∧ ([] : H) = [], [memK 12 v] = [memK 12 v] ∧ ([] : H) = []]) (by kernel_rfl) ⟨⟨rfl, rfl⟩, ⟨rfl, rfl⟩, trivial⟩

end Go.Ab

set_option linter.unusedVariables false
set_option linter.unusedSimpArgs false
namespace Go.Ab
open Go.Proofs
set_option maxRecDepth 100000

/-! ### gear.Args of a loop's operation -/
def F32 : FuncId → Tmp → Bool := fun K t => K == 32 && [36, 37].contains t
theorem args_run {x : Nat} (hx : x ≤ 15) : Callable Tryz.prog 32 ∧ Run Tryz.prog 32 [.row 0 0 1 1] [.cells 38 [[iv 34, iv (x : Int), iv 0]] false] (.row 1 0 1 1) [.cells 38 [[iv 34, iv (x : Int), iv 0]] false, .cells 38 [[iv 34, iv (x : Int), iv 0]] true] :=
  run_of_vN X1_sound cNone_sound (F := F32) (n := 30) (ds := [(iv (x : Int), []), (iv (x : Int), [])]) (rec := [iv (if (x : Int) < 255 then (x : Int) else 255) = iv (x : Int), iv (if (x : Int) > 0 then (x : Int) else 0) = iv (x : Int)]) (by kernel_rfl)
    ⟨iv_eq (if_pos (by omega)), iv_eq (by split <;> omega), trivial⟩
theorem args_nil : Callable Tryz.prog 32 ∧ Run Tryz.prog 32 [nilS] [] (.row 0 0 0 0) [.cells 38 [] true] := evN_sound follows_mixed X1_sound 30 _ _ _ _ _ (by kernel_rfl)
end Go.Ab

set_option linter.unusedVariables false
set_option linter.unusedSimpArgs false
namespace Go.Ab
open Go.Proofs
set_option maxRecDepth 100000

/-! ### dialect.Quirks -/
theorem quirk_1 : Callable Tryz.prog 13 ∧ Run Tryz.prog 13 [iv 1] [] (.tup [.agg q1, iv 0]) [] := evN_sound follows_mixed X1_sound 20 _ _ _ _ _ (by kernel_rfl)
theorem quirk_2 : Callable Tryz.prog 13 ∧ Run Tryz.prog 13 [iv 2] [] (.tup [.agg q2, iv 0]) [] := evN_sound follows_mixed X1_sound 20 _ _ _ _ _ (by kernel_rfl)
theorem quirk_3 : Callable Tryz.prog 13 ∧ Run Tryz.prog 13 [iv 3] [] (.tup [.agg q3, iv 0]) [] := evN_sound follows_mixed X1_sound 20 _ _ _ _ _ (by kernel_rfl)
theorem quirk_4 : Callable Tryz.prog 13 ∧ Run Tryz.prog 13 [iv 4] [] (.tup [.agg q4, iv 0]) [] := evN_sound follows_mixed X1_sound 20 _ _ _ _ _ (by kernel_rfl)
theorem quirk_6 : Callable Tryz.prog 13 ∧ Run Tryz.prog 13 [iv 6] [] (.tup [.agg q6, iv 0]) [] := evN_sound follows_mixed X1_sound 20 _ _ _ _ _ (by kernel_rfl)

end Go.Ab
