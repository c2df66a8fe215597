/- What order.Walk answers on the song of the law. -/
import Derived.Test.YthbnhmmdafkcfaaGreatRowE
set_option linter.unusedVariables false
set_option linter.unusedSimpArgs false
namespace Go.Ab
open Go.Proofs
set_option maxRecDepth 100000

/-! ### song.Valid: all cells of the pattern are valid -/
theorem CL_get {nn pp : Nat → Int} {i : Nat} (h : i < 64) : (CL nn pp)[i]? = some (cellC (nn i) (pp i)) := by simp [CL, h]
def chkH (d : Int) (lin : Bool) (pan : Int) (qs : List V) (nn pp : Nat → Int) : H := [.cells 127 [songC d lin 1 ++ qs] true] ++ restH pan 1 (CL nn pp)
/-- The same, as it is met from the cells. -/
def chkC (d : Int) (lin : Bool) (pan : Int) (qs : List V) (nn pp : Nat → Int) : H := [.cells 34 (CL nn pp) true, .cells 127 [songC d lin 2 ++ qs] true, .cells 3 [[iv 0]] false, .cells 3 [[iv pan]] false, .cells 41 [[iv 64, .row 0 0 64 64]] false]
def cH (nn pp : Nat → Int) : H := [.cells 34 (CL nn pp) true]
noncomputable def c185 : Code := Tryz.f185.body.getD .skip
noncomputable def x185 : Code := inn (inn (sq2 (sq1 (sq2 c185))))
theorem c185_eq : c185 = .seq (sq1 c185) (.seq (.seq (sq1 (sq1 (sq2 c185))) (.block 0 (.loop x185))) (sq2 (sq2 c185))) := by kernel_rfl
def S185 (g : V) (H : H) (q : Nat) : St := ⟨[.row 0 0 64 64, g, .dead, .dead, .dead, .dead, .dead, iv 64, iv (q : Int)] ++ List.replicate 10 .dead, H⟩
def ks185 : List Nat := [4, 5, 6] ++ (List.range 10).map (· + 9)
def ks185b : List Nat := [4, 5, 6, 8] ++ (List.range 10).map (· + 9)
def F185 : FuncId → Tmp → Bool := fun K t => K == 185 && [9, 18, 2014, 2015].contains t

theorem clo184 {n p : Int} (hC : Callable Tryz.prog 57 ∧ Run Tryz.prog 57 [.agg (cellC n p)] [] (bv true) []) : Callable Tryz.prog 184 ∧ Run Tryz.prog 184 [.agg (cellC n p)] [] (bv false) [] :=
  run_of_vN X1_sound (cOne_sound hC) (F := fun _ _ => false) (n := 6) (ds := []) (rec := [[V.agg (cellC n p)] = [V.agg (cellC n p)] ∧ ([] : H) = []]) (by kernel_rfl) ⟨⟨rfl, rfl⟩, trivial⟩
theorem idx184_r {nn pp : Nat → Int} {q : Nat} (hq : q < 64) (hC : Callable Tryz.prog 57 ∧ Run Tryz.prog 57 [.agg (cellC (nn q) (pp q))] [] (bv true) []) {w0 : World} {Pr0 : Nat → Prop} {β0 : Bt} (hβ : β0.length ≤ 1) {a : Act} {w : World} {Q : Exit → Act → World → Prop} (hr : Rel Tryz.prog w0 Pr0 β0 (S185 (.fn 184 [] []) (cH nn pp) q) a w)
    (hQ : ∀ a' w', Rel Tryz.prog w0 Pr0 β0 (S185 (.fn 184 [] []) (cH nn pp) (q + 1)) a' w' → Q .normal a' w') : x185.wp Tryz.prog Q a w :=
  evV_coarse (ex := .normal) follows_mixed X1_sound (cOne_sound (clo184 hC)) (n := 6) (k := 6) (F := F185) (F0 := F185 185) (ds := [(bv true, []), (.ptr 0 q 0, cH nn pp), (.agg (cellC (nn q) (pp q)), cH nn pp), (iv ((q + 1 : Nat) : Int), [])])
    (rec := [iv (IntKind.i64.wrap ((q : Int) + 1)) = iv ((q + 1 : Nat) : Int), [V.agg (cellC (nn q) (pp q))] = [V.agg (cellC (nn q) (pp q))] ∧ ([] : H) = [], loadE Tryz.prog 34 (.ptr 0 q 0) (cH nn pp) = some (.agg (cellC (nn q) (pp q))) ∧ cH nn pp = cH nn pp, idxE Tryz.prog 39 (.row 0 0 64 64) (iv (q : Int)) (cH nn pp) = some (.ptr 0 q 0) ∧ cH nn pp = cH nn pp, bv (decide ((q : Int) < 64)) = bv true])
    (m := 1) (ks := ks185) (p := fun _ _ => true) (s' := S185 (.fn 184 [] []) (cH nn pp) (q + 1)) (by kernel_rfl)
    ⟨iv_eq (up_eq (by omega)), ⟨rfl, rfl⟩, ⟨loadE_ptr (bt := 34) (es := CL nn pp) (ex := true) (by kernel_rfl) rfl (CL_get hq), rfl⟩, ⟨by rw [idxE_row (e := 34) (es := CL nn pp) (ex := true) (by kernel_rfl) (by kernel_rfl) rfl hq]; simp, rfl⟩, bv_eq (decide_eq_true (by omega)), trivial⟩ hβ hr hQ
theorem idx184 {nn pp : Nat → Int} (hC : ∀ q, q < 64 → Callable Tryz.prog 57 ∧ Run Tryz.prog 57 [.agg (cellC (nn q) (pp q))] [] (bv true) []) : Callable Tryz.prog 185 ∧ Run Tryz.prog 185 [.row 0 0 64 64, .fn 184 [] []] (cH nn pp) (iv (-1)) (cH nn pp) := by
  refine fn_run Tryz.func185 (c := c185) (by kernel_rfl) (by kernel_rfl) fun w0 Pr0 β0 a w Q hβ hr hfin => ?_
  have hβ0 : β0.length ≤ 1 := by rw [hβ]; exact Nat.le_refl _
  rw [c185_eq]
  have hr : Rel Tryz.prog w0 Pr0 β0 ⟨[.row 0 0 64 64, .fn 184 [] []] ++ List.replicate 17 uv, cH nn pp⟩ a w := hr
  refine wp_seq (evC_coarse follows_mixed (callE_sound X1_sound) (n := 0) (ex := .normal) (m := 1) (ks := (List.range 17).map (· + 2)) (p := fun _ _ => true) (s' := ⟨[.row 0 0 64 64, .fn 184 [] []] ++ List.replicate 17 .dead, cH nn pp⟩) (by kernel_rfl) hβ0 hr fun a w hr => wp_seq (wp_seq ?_))
  refine evC_coarse follows_mixed (callE_sound X1_sound) (n := 0) (ex := .normal) (m := 1) (ks := ks185) (p := fun _ _ => true) (s' := S185 (.fn 184 [] []) (cH nn pp) 0) (by kernel_rfl) hβ0 hr fun a w hr => ?_
  refine wp_block (loop_up (S := S185 (.fn 184 [] []) (cH nn pp)) (N := 64) (q0 := 0) (by omega) hr (fun q _ hq a w hr => idx184_r hq (hC q hq) hβ0 hr fun a w hr => hr) fun a w hr => ?_)
  refine evC_coarse follows_mixed (callE_sound X1_sound) (n := 0) (ex := .exit 0) (m := 1) (ks := ks185) (p := fun _ _ => true) (s' := S185 (.fn 184 [] []) (cH nn pp) 64) (by kernel_rfl) hβ0 hr fun a w hr => ?_
  refine evC_coarse follows_mixed (callE_sound X1_sound) (n := 0) (ex := .ret) (m := 1) (ks := []) (p := fun _ _ => true) (s' := ⟨(S185 (.fn 184 [] []) (cH nn pp) 64).tm.set 4 (iv (-1)), cH nn pp⟩) (by kernel_rfl) hβ0 hr fun a w hr => ?_
  exact hfin .ret _ a w (by simp) (by kernel_rfl) hr

theorem clo155_1 {n p : Int} {nn pp : Nat → Int} (hC : Callable Tryz.prog 29 ∧ Run Tryz.prog 29 [iv 1, .agg (cellC n p)] [] (bv true) []) : Callable Tryz.prog 155 ∧ Run Tryz.prog 155 [.agg (cellC n p), .ptr 0 0 0] (chkH 1 false 0 q1 nn pp) (bv false) (chkH 1 false 0 q1 nn pp) :=
  run_of_vN X1_sound (cOne_sound hC) (F := fun _ _ => false) (n := 6) (ds := []) (rec := [[iv 1, V.agg (cellC n p)] = [iv 1, V.agg (cellC n p)] ∧ ([] : H) = []]) (by kernel_rfl) ⟨⟨rfl, rfl⟩, trivial⟩
theorem idx155_1_r {nn pp : Nat → Int} {q : Nat} (hq : q < 64) (hC : Callable Tryz.prog 29 ∧ Run Tryz.prog 29 [iv 1, .agg (cellC (nn q) (pp q))] [] (bv true) []) {w0 : World} {Pr0 : Nat → Prop} {β0 : Bt} (hβ : β0.length ≤ 5) {a : Act} {w : World} {Q : Exit → Act → World → Prop} (hr : Rel Tryz.prog w0 Pr0 β0 (S185 (.fn 155 [] [.ptr 1 0 0]) (chkC 1 false 0 q1 nn pp) q) a w)
    (hQ : ∀ a' w', Rel Tryz.prog w0 Pr0 β0 (S185 (.fn 155 [] [.ptr 1 0 0]) (chkC 1 false 0 q1 nn pp) (q + 1)) a' w' → Q .normal a' w') : x185.wp Tryz.prog Q a w :=
  evV_coarse (ex := .normal) follows_mixed X1_sound (cOne_sound (clo155_1 (nn := nn) (pp := pp) hC)) (n := 6) (k := 6) (F := F185) (F0 := F185 185) (ds := [(bv true, []), (.ptr 0 q 0, chkC 1 false 0 q1 nn pp), (.agg (cellC (nn q) (pp q)), chkC 1 false 0 q1 nn pp), (iv ((q + 1 : Nat) : Int), [])])
    (rec := [iv (IntKind.i64.wrap ((q : Int) + 1)) = iv ((q + 1 : Nat) : Int), [V.agg (cellC (nn q) (pp q)), .ptr 0 0 0] = [V.agg (cellC (nn q) (pp q)), .ptr 0 0 0] ∧ (chkH 1 false 0 q1 nn pp) = (chkH 1 false 0 q1 nn pp), loadE Tryz.prog 34 (.ptr 0 q 0) (chkC 1 false 0 q1 nn pp) = some (.agg (cellC (nn q) (pp q))) ∧ chkC 1 false 0 q1 nn pp = chkC 1 false 0 q1 nn pp, idxE Tryz.prog 39 (.row 0 0 64 64) (iv (q : Int)) (chkC 1 false 0 q1 nn pp) = some (.ptr 0 q 0) ∧ chkC 1 false 0 q1 nn pp = chkC 1 false 0 q1 nn pp, bv (decide ((q : Int) < 64)) = bv true])
    (m := 5) (ks := ks185) (p := fun _ _ => true) (s' := S185 (.fn 155 [] [.ptr 1 0 0]) (chkC 1 false 0 q1 nn pp) (q + 1)) (by kernel_rfl)
    ⟨iv_eq (up_eq (by omega)), ⟨rfl, rfl⟩, ⟨loadE_ptr (bt := 34) (es := CL nn pp) (ex := true) (by kernel_rfl) rfl (CL_get hq), rfl⟩, ⟨by rw [idxE_row (e := 34) (es := CL nn pp) (ex := true) (by kernel_rfl) (by kernel_rfl) rfl hq]; simp, rfl⟩, bv_eq (decide_eq_true (by omega)), trivial⟩ hβ hr hQ
theorem idx155_1 {nn pp : Nat → Int} (hC : ∀ q, q < 64 → Callable Tryz.prog 29 ∧ Run Tryz.prog 29 [iv 1, .agg (cellC (nn q) (pp q))] [] (bv true) []) : Callable Tryz.prog 185 ∧ Run Tryz.prog 185 [.row 0 0 64 64, .fn 155 [] [.ptr 1 0 0]] (chkC 1 false 0 q1 nn pp) (iv (-1)) (chkC 1 false 0 q1 nn pp) := by
  refine fn_run Tryz.func185 (c := c185) (by kernel_rfl) (by kernel_rfl) fun w0 Pr0 β0 a w Q hβ hr hfin => ?_
  have hβ0 : β0.length ≤ 5 := by rw [hβ]; exact Nat.le_refl _
  rw [c185_eq]
  have hr : Rel Tryz.prog w0 Pr0 β0 ⟨[.row 0 0 64 64, .fn 155 [] [.ptr 1 0 0]] ++ List.replicate 17 uv, chkC 1 false 0 q1 nn pp⟩ a w := hr
  refine wp_seq (evC_coarse follows_mixed (callE_sound X1_sound) (n := 0) (ex := .normal) (m := 5) (ks := (List.range 17).map (· + 2)) (p := fun _ _ => true) (s' := ⟨[.row 0 0 64 64, .fn 155 [] [.ptr 1 0 0]] ++ List.replicate 17 .dead, chkC 1 false 0 q1 nn pp⟩) (by kernel_rfl) hβ0 hr fun a w hr => wp_seq (wp_seq ?_))
  refine evC_coarse follows_mixed (callE_sound X1_sound) (n := 0) (ex := .normal) (m := 5) (ks := ks185) (p := fun _ _ => true) (s' := S185 (.fn 155 [] [.ptr 1 0 0]) (chkC 1 false 0 q1 nn pp) 0) (by kernel_rfl) hβ0 hr fun a w hr => ?_
  refine wp_block (loop_up (S := S185 (.fn 155 [] [.ptr 1 0 0]) (chkC 1 false 0 q1 nn pp)) (N := 64) (q0 := 0) (by omega) hr (fun q _ hq a w hr => idx155_1_r hq (hC q hq) hβ0 hr fun a w hr => hr) fun a w hr => ?_)
  refine evC_coarse follows_mixed (callE_sound X1_sound) (n := 0) (ex := .exit 0) (m := 5) (ks := ks185) (p := fun _ _ => true) (s' := S185 (.fn 155 [] [.ptr 1 0 0]) (chkC 1 false 0 q1 nn pp) 64) (by kernel_rfl) hβ0 hr fun a w hr => ?_
  refine evC_coarse follows_mixed (callE_sound X1_sound) (n := 0) (ex := .ret) (m := 5) (ks := []) (p := fun _ _ => true) (s' := ⟨(S185 (.fn 155 [] [.ptr 1 0 0]) (chkC 1 false 0 q1 nn pp) 64).tm.set 4 (iv (-1)), chkC 1 false 0 q1 nn pp⟩) (by kernel_rfl) hβ0 hr fun a w hr => ?_
  exact hfin .ret _ a w (by simp) (by kernel_rfl) hr

theorem idx156_1_r {nn pp : Nat → Int} {q : Nat} (hq : q < 64)  {w0 : World} {Pr0 : Nat → Prop} {β0 : Bt} (hβ : β0.length ≤ 5) {a : Act} {w : World} {Q : Exit → Act → World → Prop} (hr : Rel Tryz.prog w0 Pr0 β0 (S185 (.fn 156 [] [.ptr 1 0 0]) (chkC 1 false 0 q1 nn pp) q) a w)
    (hQ : ∀ a' w', Rel Tryz.prog w0 Pr0 β0 (S185 (.fn 156 [] [.ptr 1 0 0]) (chkC 1 false 0 q1 nn pp) (q + 1)) a' w' → Q .normal a' w') : x185.wp Tryz.prog Q a w :=
  evV_coarse (ex := .normal) follows_mixed X1_sound (cNone_sound) (n := 6) (k := 6) (F := F185) (F0 := F185 185) (ds := [(bv true, []), (.ptr 0 q 0, chkC 1 false 0 q1 nn pp), (.agg (cellC (nn q) (pp q)), chkC 1 false 0 q1 nn pp), (iv ((q + 1 : Nat) : Int), [])])
    (rec := [iv (IntKind.i64.wrap ((q : Int) + 1)) = iv ((q + 1 : Nat) : Int), loadE Tryz.prog 34 (.ptr 0 q 0) (chkC 1 false 0 q1 nn pp) = some (.agg (cellC (nn q) (pp q))) ∧ chkC 1 false 0 q1 nn pp = chkC 1 false 0 q1 nn pp, idxE Tryz.prog 39 (.row 0 0 64 64) (iv (q : Int)) (chkC 1 false 0 q1 nn pp) = some (.ptr 0 q 0) ∧ chkC 1 false 0 q1 nn pp = chkC 1 false 0 q1 nn pp, bv (decide ((q : Int) < 64)) = bv true])
    (m := 5) (ks := ks185) (p := fun _ _ => true) (s' := S185 (.fn 156 [] [.ptr 1 0 0]) (chkC 1 false 0 q1 nn pp) (q + 1)) (by kernel_rfl)
    ⟨iv_eq (up_eq (by omega)), ⟨loadE_ptr (bt := 34) (es := CL nn pp) (ex := true) (by kernel_rfl) rfl (CL_get hq), rfl⟩, ⟨by rw [idxE_row (e := 34) (es := CL nn pp) (ex := true) (by kernel_rfl) (by kernel_rfl) rfl hq]; simp, rfl⟩, bv_eq (decide_eq_true (by omega)), trivial⟩ hβ hr hQ
theorem idx156_1 {nn pp : Nat → Int}  : Callable Tryz.prog 185 ∧ Run Tryz.prog 185 [.row 0 0 64 64, .fn 156 [] [.ptr 1 0 0]] (chkC 1 false 0 q1 nn pp) (iv (-1)) (chkC 1 false 0 q1 nn pp) := by
  refine fn_run Tryz.func185 (c := c185) (by kernel_rfl) (by kernel_rfl) fun w0 Pr0 β0 a w Q hβ hr hfin => ?_
  have hβ0 : β0.length ≤ 5 := by rw [hβ]; exact Nat.le_refl _
  rw [c185_eq]
  have hr : Rel Tryz.prog w0 Pr0 β0 ⟨[.row 0 0 64 64, .fn 156 [] [.ptr 1 0 0]] ++ List.replicate 17 uv, chkC 1 false 0 q1 nn pp⟩ a w := hr
  refine wp_seq (evC_coarse follows_mixed (callE_sound X1_sound) (n := 0) (ex := .normal) (m := 5) (ks := (List.range 17).map (· + 2)) (p := fun _ _ => true) (s' := ⟨[.row 0 0 64 64, .fn 156 [] [.ptr 1 0 0]] ++ List.replicate 17 .dead, chkC 1 false 0 q1 nn pp⟩) (by kernel_rfl) hβ0 hr fun a w hr => wp_seq (wp_seq ?_))
  refine evC_coarse follows_mixed (callE_sound X1_sound) (n := 0) (ex := .normal) (m := 5) (ks := ks185) (p := fun _ _ => true) (s' := S185 (.fn 156 [] [.ptr 1 0 0]) (chkC 1 false 0 q1 nn pp) 0) (by kernel_rfl) hβ0 hr fun a w hr => ?_
  refine wp_block (loop_up (S := S185 (.fn 156 [] [.ptr 1 0 0]) (chkC 1 false 0 q1 nn pp)) (N := 64) (q0 := 0) (by omega) hr (fun q _ hq a w hr => idx156_1_r hq  hβ0 hr fun a w hr => hr) fun a w hr => ?_)
  refine evC_coarse follows_mixed (callE_sound X1_sound) (n := 0) (ex := .exit 0) (m := 5) (ks := ks185) (p := fun _ _ => true) (s' := S185 (.fn 156 [] [.ptr 1 0 0]) (chkC 1 false 0 q1 nn pp) 64) (by kernel_rfl) hβ0 hr fun a w hr => ?_
  refine evC_coarse follows_mixed (callE_sound X1_sound) (n := 0) (ex := .ret) (m := 5) (ks := []) (p := fun _ _ => true) (s' := ⟨(S185 (.fn 156 [] [.ptr 1 0 0]) (chkC 1 false 0 q1 nn pp) 64).tm.set 4 (iv (-1)), chkC 1 false 0 q1 nn pp⟩) (by kernel_rfl) hβ0 hr fun a w hr => ?_
  exact hfin .ret _ a w (by simp) (by kernel_rfl) hr

theorem clo155_2 {n p : Int} {nn pp : Nat → Int} (hC : Callable Tryz.prog 29 ∧ Run Tryz.prog 29 [iv 2, .agg (cellC n p)] [] (bv true) []) : Callable Tryz.prog 155 ∧ Run Tryz.prog 155 [.agg (cellC n p), .ptr 0 0 0] (chkH 2 false 128 q2 nn pp) (bv false) (chkH 2 false 128 q2 nn pp) :=
  run_of_vN X1_sound (cOne_sound hC) (F := fun _ _ => false) (n := 6) (ds := []) (rec := [[iv 2, V.agg (cellC n p)] = [iv 2, V.agg (cellC n p)] ∧ ([] : H) = []]) (by kernel_rfl) ⟨⟨rfl, rfl⟩, trivial⟩
theorem idx155_2_r {nn pp : Nat → Int} {q : Nat} (hq : q < 64) (hC : Callable Tryz.prog 29 ∧ Run Tryz.prog 29 [iv 2, .agg (cellC (nn q) (pp q))] [] (bv true) []) {w0 : World} {Pr0 : Nat → Prop} {β0 : Bt} (hβ : β0.length ≤ 5) {a : Act} {w : World} {Q : Exit → Act → World → Prop} (hr : Rel Tryz.prog w0 Pr0 β0 (S185 (.fn 155 [] [.ptr 1 0 0]) (chkC 2 false 128 q2 nn pp) q) a w)
    (hQ : ∀ a' w', Rel Tryz.prog w0 Pr0 β0 (S185 (.fn 155 [] [.ptr 1 0 0]) (chkC 2 false 128 q2 nn pp) (q + 1)) a' w' → Q .normal a' w') : x185.wp Tryz.prog Q a w :=
  evV_coarse (ex := .normal) follows_mixed X1_sound (cOne_sound (clo155_2 (nn := nn) (pp := pp) hC)) (n := 6) (k := 6) (F := F185) (F0 := F185 185) (ds := [(bv true, []), (.ptr 0 q 0, chkC 2 false 128 q2 nn pp), (.agg (cellC (nn q) (pp q)), chkC 2 false 128 q2 nn pp), (iv ((q + 1 : Nat) : Int), [])])
    (rec := [iv (IntKind.i64.wrap ((q : Int) + 1)) = iv ((q + 1 : Nat) : Int), [V.agg (cellC (nn q) (pp q)), .ptr 0 0 0] = [V.agg (cellC (nn q) (pp q)), .ptr 0 0 0] ∧ (chkH 2 false 128 q2 nn pp) = (chkH 2 false 128 q2 nn pp), loadE Tryz.prog 34 (.ptr 0 q 0) (chkC 2 false 128 q2 nn pp) = some (.agg (cellC (nn q) (pp q))) ∧ chkC 2 false 128 q2 nn pp = chkC 2 false 128 q2 nn pp, idxE Tryz.prog 39 (.row 0 0 64 64) (iv (q : Int)) (chkC 2 false 128 q2 nn pp) = some (.ptr 0 q 0) ∧ chkC 2 false 128 q2 nn pp = chkC 2 false 128 q2 nn pp, bv (decide ((q : Int) < 64)) = bv true])
    (m := 5) (ks := ks185) (p := fun _ _ => true) (s' := S185 (.fn 155 [] [.ptr 1 0 0]) (chkC 2 false 128 q2 nn pp) (q + 1)) (by kernel_rfl)
    ⟨iv_eq (up_eq (by omega)), ⟨rfl, rfl⟩, ⟨loadE_ptr (bt := 34) (es := CL nn pp) (ex := true) (by kernel_rfl) rfl (CL_get hq), rfl⟩, ⟨by rw [idxE_row (e := 34) (es := CL nn pp) (ex := true) (by kernel_rfl) (by kernel_rfl) rfl hq]; simp, rfl⟩, bv_eq (decide_eq_true (by omega)), trivial⟩ hβ hr hQ
theorem idx155_2 {nn pp : Nat → Int} (hC : ∀ q, q < 64 → Callable Tryz.prog 29 ∧ Run Tryz.prog 29 [iv 2, .agg (cellC (nn q) (pp q))] [] (bv true) []) : Callable Tryz.prog 185 ∧ Run Tryz.prog 185 [.row 0 0 64 64, .fn 155 [] [.ptr 1 0 0]] (chkC 2 false 128 q2 nn pp) (iv (-1)) (chkC 2 false 128 q2 nn pp) := by
  refine fn_run Tryz.func185 (c := c185) (by kernel_rfl) (by kernel_rfl) fun w0 Pr0 β0 a w Q hβ hr hfin => ?_
  have hβ0 : β0.length ≤ 5 := by rw [hβ]; exact Nat.le_refl _
  rw [c185_eq]
  have hr : Rel Tryz.prog w0 Pr0 β0 ⟨[.row 0 0 64 64, .fn 155 [] [.ptr 1 0 0]] ++ List.replicate 17 uv, chkC 2 false 128 q2 nn pp⟩ a w := hr
  refine wp_seq (evC_coarse follows_mixed (callE_sound X1_sound) (n := 0) (ex := .normal) (m := 5) (ks := (List.range 17).map (· + 2)) (p := fun _ _ => true) (s' := ⟨[.row 0 0 64 64, .fn 155 [] [.ptr 1 0 0]] ++ List.replicate 17 .dead, chkC 2 false 128 q2 nn pp⟩) (by kernel_rfl) hβ0 hr fun a w hr => wp_seq (wp_seq ?_))
  refine evC_coarse follows_mixed (callE_sound X1_sound) (n := 0) (ex := .normal) (m := 5) (ks := ks185) (p := fun _ _ => true) (s' := S185 (.fn 155 [] [.ptr 1 0 0]) (chkC 2 false 128 q2 nn pp) 0) (by kernel_rfl) hβ0 hr fun a w hr => ?_
  refine wp_block (loop_up (S := S185 (.fn 155 [] [.ptr 1 0 0]) (chkC 2 false 128 q2 nn pp)) (N := 64) (q0 := 0) (by omega) hr (fun q _ hq a w hr => idx155_2_r hq (hC q hq) hβ0 hr fun a w hr => hr) fun a w hr => ?_)
  refine evC_coarse follows_mixed (callE_sound X1_sound) (n := 0) (ex := .exit 0) (m := 5) (ks := ks185) (p := fun _ _ => true) (s' := S185 (.fn 155 [] [.ptr 1 0 0]) (chkC 2 false 128 q2 nn pp) 64) (by kernel_rfl) hβ0 hr fun a w hr => ?_
  refine evC_coarse follows_mixed (callE_sound X1_sound) (n := 0) (ex := .ret) (m := 5) (ks := []) (p := fun _ _ => true) (s' := ⟨(S185 (.fn 155 [] [.ptr 1 0 0]) (chkC 2 false 128 q2 nn pp) 64).tm.set 4 (iv (-1)), chkC 2 false 128 q2 nn pp⟩) (by kernel_rfl) hβ0 hr fun a w hr => ?_
  exact hfin .ret _ a w (by simp) (by kernel_rfl) hr

theorem idx156_2_r {nn pp : Nat → Int} {q : Nat} (hq : q < 64)  {w0 : World} {Pr0 : Nat → Prop} {β0 : Bt} (hβ : β0.length ≤ 5) {a : Act} {w : World} {Q : Exit → Act → World → Prop} (hr : Rel Tryz.prog w0 Pr0 β0 (S185 (.fn 156 [] [.ptr 1 0 0]) (chkC 2 false 128 q2 nn pp) q) a w)
    (hQ : ∀ a' w', Rel Tryz.prog w0 Pr0 β0 (S185 (.fn 156 [] [.ptr 1 0 0]) (chkC 2 false 128 q2 nn pp) (q + 1)) a' w' → Q .normal a' w') : x185.wp Tryz.prog Q a w :=
  evV_coarse (ex := .normal) follows_mixed X1_sound (cNone_sound) (n := 6) (k := 6) (F := F185) (F0 := F185 185) (ds := [(bv true, []), (.ptr 0 q 0, chkC 2 false 128 q2 nn pp), (.agg (cellC (nn q) (pp q)), chkC 2 false 128 q2 nn pp), (iv ((q + 1 : Nat) : Int), [])])
    (rec := [iv (IntKind.i64.wrap ((q : Int) + 1)) = iv ((q + 1 : Nat) : Int), loadE Tryz.prog 34 (.ptr 0 q 0) (chkC 2 false 128 q2 nn pp) = some (.agg (cellC (nn q) (pp q))) ∧ chkC 2 false 128 q2 nn pp = chkC 2 false 128 q2 nn pp, idxE Tryz.prog 39 (.row 0 0 64 64) (iv (q : Int)) (chkC 2 false 128 q2 nn pp) = some (.ptr 0 q 0) ∧ chkC 2 false 128 q2 nn pp = chkC 2 false 128 q2 nn pp, bv (decide ((q : Int) < 64)) = bv true])
    (m := 5) (ks := ks185) (p := fun _ _ => true) (s' := S185 (.fn 156 [] [.ptr 1 0 0]) (chkC 2 false 128 q2 nn pp) (q + 1)) (by kernel_rfl)
    ⟨iv_eq (up_eq (by omega)), ⟨loadE_ptr (bt := 34) (es := CL nn pp) (ex := true) (by kernel_rfl) rfl (CL_get hq), rfl⟩, ⟨by rw [idxE_row (e := 34) (es := CL nn pp) (ex := true) (by kernel_rfl) (by kernel_rfl) rfl hq]; simp, rfl⟩, bv_eq (decide_eq_true (by omega)), trivial⟩ hβ hr hQ
theorem idx156_2 {nn pp : Nat → Int}  : Callable Tryz.prog 185 ∧ Run Tryz.prog 185 [.row 0 0 64 64, .fn 156 [] [.ptr 1 0 0]] (chkC 2 false 128 q2 nn pp) (iv (-1)) (chkC 2 false 128 q2 nn pp) := by
  refine fn_run Tryz.func185 (c := c185) (by kernel_rfl) (by kernel_rfl) fun w0 Pr0 β0 a w Q hβ hr hfin => ?_
  have hβ0 : β0.length ≤ 5 := by rw [hβ]; exact Nat.le_refl _
  rw [c185_eq]
  have hr : Rel Tryz.prog w0 Pr0 β0 ⟨[.row 0 0 64 64, .fn 156 [] [.ptr 1 0 0]] ++ List.replicate 17 uv, chkC 2 false 128 q2 nn pp⟩ a w := hr
  refine wp_seq (evC_coarse follows_mixed (callE_sound X1_sound) (n := 0) (ex := .normal) (m := 5) (ks := (List.range 17).map (· + 2)) (p := fun _ _ => true) (s' := ⟨[.row 0 0 64 64, .fn 156 [] [.ptr 1 0 0]] ++ List.replicate 17 .dead, chkC 2 false 128 q2 nn pp⟩) (by kernel_rfl) hβ0 hr fun a w hr => wp_seq (wp_seq ?_))
  refine evC_coarse follows_mixed (callE_sound X1_sound) (n := 0) (ex := .normal) (m := 5) (ks := ks185) (p := fun _ _ => true) (s' := S185 (.fn 156 [] [.ptr 1 0 0]) (chkC 2 false 128 q2 nn pp) 0) (by kernel_rfl) hβ0 hr fun a w hr => ?_
  refine wp_block (loop_up (S := S185 (.fn 156 [] [.ptr 1 0 0]) (chkC 2 false 128 q2 nn pp)) (N := 64) (q0 := 0) (by omega) hr (fun q _ hq a w hr => idx156_2_r hq  hβ0 hr fun a w hr => hr) fun a w hr => ?_)
  refine evC_coarse follows_mixed (callE_sound X1_sound) (n := 0) (ex := .exit 0) (m := 5) (ks := ks185) (p := fun _ _ => true) (s' := S185 (.fn 156 [] [.ptr 1 0 0]) (chkC 2 false 128 q2 nn pp) 64) (by kernel_rfl) hβ0 hr fun a w hr => ?_
  refine evC_coarse follows_mixed (callE_sound X1_sound) (n := 0) (ex := .ret) (m := 5) (ks := []) (p := fun _ _ => true) (s' := ⟨(S185 (.fn 156 [] [.ptr 1 0 0]) (chkC 2 false 128 q2 nn pp) 64).tm.set 4 (iv (-1)), chkC 2 false 128 q2 nn pp⟩) (by kernel_rfl) hβ0 hr fun a w hr => ?_
  exact hfin .ret _ a w (by simp) (by kernel_rfl) hr

theorem clo155_3 {n p : Int} {nn pp : Nat → Int} (hC : Callable Tryz.prog 29 ∧ Run Tryz.prog 29 [iv 3, .agg (cellC n p)] [] (bv true) []) : Callable Tryz.prog 155 ∧ Run Tryz.prog 155 [.agg (cellC n p), .ptr 0 0 0] (chkH 3 true 128 q3 nn pp) (bv false) (chkH 3 true 128 q3 nn pp) :=
  run_of_vN X1_sound (cOne_sound hC) (F := fun _ _ => false) (n := 6) (ds := []) (rec := [[iv 3, V.agg (cellC n p)] = [iv 3, V.agg (cellC n p)] ∧ ([] : H) = []]) (by kernel_rfl) ⟨⟨rfl, rfl⟩, trivial⟩
theorem idx155_3_r {nn pp : Nat → Int} {q : Nat} (hq : q < 64) (hC : Callable Tryz.prog 29 ∧ Run Tryz.prog 29 [iv 3, .agg (cellC (nn q) (pp q))] [] (bv true) []) {w0 : World} {Pr0 : Nat → Prop} {β0 : Bt} (hβ : β0.length ≤ 5) {a : Act} {w : World} {Q : Exit → Act → World → Prop} (hr : Rel Tryz.prog w0 Pr0 β0 (S185 (.fn 155 [] [.ptr 1 0 0]) (chkC 3 true 128 q3 nn pp) q) a w)
    (hQ : ∀ a' w', Rel Tryz.prog w0 Pr0 β0 (S185 (.fn 155 [] [.ptr 1 0 0]) (chkC 3 true 128 q3 nn pp) (q + 1)) a' w' → Q .normal a' w') : x185.wp Tryz.prog Q a w :=
  evV_coarse (ex := .normal) follows_mixed X1_sound (cOne_sound (clo155_3 (nn := nn) (pp := pp) hC)) (n := 6) (k := 6) (F := F185) (F0 := F185 185) (ds := [(bv true, []), (.ptr 0 q 0, chkC 3 true 128 q3 nn pp), (.agg (cellC (nn q) (pp q)), chkC 3 true 128 q3 nn pp), (iv ((q + 1 : Nat) : Int), [])])
    (rec := [iv (IntKind.i64.wrap ((q : Int) + 1)) = iv ((q + 1 : Nat) : Int), [V.agg (cellC (nn q) (pp q)), .ptr 0 0 0] = [V.agg (cellC (nn q) (pp q)), .ptr 0 0 0] ∧ (chkH 3 true 128 q3 nn pp) = (chkH 3 true 128 q3 nn pp), loadE Tryz.prog 34 (.ptr 0 q 0) (chkC 3 true 128 q3 nn pp) = some (.agg (cellC (nn q) (pp q))) ∧ chkC 3 true 128 q3 nn pp = chkC 3 true 128 q3 nn pp, idxE Tryz.prog 39 (.row 0 0 64 64) (iv (q : Int)) (chkC 3 true 128 q3 nn pp) = some (.ptr 0 q 0) ∧ chkC 3 true 128 q3 nn pp = chkC 3 true 128 q3 nn pp, bv (decide ((q : Int) < 64)) = bv true])
    (m := 5) (ks := ks185) (p := fun _ _ => true) (s' := S185 (.fn 155 [] [.ptr 1 0 0]) (chkC 3 true 128 q3 nn pp) (q + 1)) (by kernel_rfl)
    ⟨iv_eq (up_eq (by omega)), ⟨rfl, rfl⟩, ⟨loadE_ptr (bt := 34) (es := CL nn pp) (ex := true) (by kernel_rfl) rfl (CL_get hq), rfl⟩, ⟨by rw [idxE_row (e := 34) (es := CL nn pp) (ex := true) (by kernel_rfl) (by kernel_rfl) rfl hq]; simp, rfl⟩, bv_eq (decide_eq_true (by omega)), trivial⟩ hβ hr hQ
theorem idx155_3 {nn pp : Nat → Int} (hC : ∀ q, q < 64 → Callable Tryz.prog 29 ∧ Run Tryz.prog 29 [iv 3, .agg (cellC (nn q) (pp q))] [] (bv true) []) : Callable Tryz.prog 185 ∧ Run Tryz.prog 185 [.row 0 0 64 64, .fn 155 [] [.ptr 1 0 0]] (chkC 3 true 128 q3 nn pp) (iv (-1)) (chkC 3 true 128 q3 nn pp) := by
  refine fn_run Tryz.func185 (c := c185) (by kernel_rfl) (by kernel_rfl) fun w0 Pr0 β0 a w Q hβ hr hfin => ?_
  have hβ0 : β0.length ≤ 5 := by rw [hβ]; exact Nat.le_refl _
  rw [c185_eq]
  have hr : Rel Tryz.prog w0 Pr0 β0 ⟨[.row 0 0 64 64, .fn 155 [] [.ptr 1 0 0]] ++ List.replicate 17 uv, chkC 3 true 128 q3 nn pp⟩ a w := hr
  refine wp_seq (evC_coarse follows_mixed (callE_sound X1_sound) (n := 0) (ex := .normal) (m := 5) (ks := (List.range 17).map (· + 2)) (p := fun _ _ => true) (s' := ⟨[.row 0 0 64 64, .fn 155 [] [.ptr 1 0 0]] ++ List.replicate 17 .dead, chkC 3 true 128 q3 nn pp⟩) (by kernel_rfl) hβ0 hr fun a w hr => wp_seq (wp_seq ?_))
  refine evC_coarse follows_mixed (callE_sound X1_sound) (n := 0) (ex := .normal) (m := 5) (ks := ks185) (p := fun _ _ => true) (s' := S185 (.fn 155 [] [.ptr 1 0 0]) (chkC 3 true 128 q3 nn pp) 0) (by kernel_rfl) hβ0 hr fun a w hr => ?_
  refine wp_block (loop_up (S := S185 (.fn 155 [] [.ptr 1 0 0]) (chkC 3 true 128 q3 nn pp)) (N := 64) (q0 := 0) (by omega) hr (fun q _ hq a w hr => idx155_3_r hq (hC q hq) hβ0 hr fun a w hr => hr) fun a w hr => ?_)
  refine evC_coarse follows_mixed (callE_sound X1_sound) (n := 0) (ex := .exit 0) (m := 5) (ks := ks185) (p := fun _ _ => true) (s' := S185 (.fn 155 [] [.ptr 1 0 0]) (chkC 3 true 128 q3 nn pp) 64) (by kernel_rfl) hβ0 hr fun a w hr => ?_
  refine evC_coarse follows_mixed (callE_sound X1_sound) (n := 0) (ex := .ret) (m := 5) (ks := []) (p := fun _ _ => true) (s' := ⟨(S185 (.fn 155 [] [.ptr 1 0 0]) (chkC 3 true 128 q3 nn pp) 64).tm.set 4 (iv (-1)), chkC 3 true 128 q3 nn pp⟩) (by kernel_rfl) hβ0 hr fun a w hr => ?_
  exact hfin .ret _ a w (by simp) (by kernel_rfl) hr

theorem idx156_3_r {nn pp : Nat → Int} {q : Nat} (hq : q < 64)  {w0 : World} {Pr0 : Nat → Prop} {β0 : Bt} (hβ : β0.length ≤ 5) {a : Act} {w : World} {Q : Exit → Act → World → Prop} (hr : Rel Tryz.prog w0 Pr0 β0 (S185 (.fn 156 [] [.ptr 1 0 0]) (chkC 3 true 128 q3 nn pp) q) a w)
    (hQ : ∀ a' w', Rel Tryz.prog w0 Pr0 β0 (S185 (.fn 156 [] [.ptr 1 0 0]) (chkC 3 true 128 q3 nn pp) (q + 1)) a' w' → Q .normal a' w') : x185.wp Tryz.prog Q a w :=
  evV_coarse (ex := .normal) follows_mixed X1_sound (cNone_sound) (n := 6) (k := 6) (F := F185) (F0 := F185 185) (ds := [(bv true, []), (.ptr 0 q 0, chkC 3 true 128 q3 nn pp), (.agg (cellC (nn q) (pp q)), chkC 3 true 128 q3 nn pp), (iv ((q + 1 : Nat) : Int), [])])
    (rec := [iv (IntKind.i64.wrap ((q : Int) + 1)) = iv ((q + 1 : Nat) : Int), loadE Tryz.prog 34 (.ptr 0 q 0) (chkC 3 true 128 q3 nn pp) = some (.agg (cellC (nn q) (pp q))) ∧ chkC 3 true 128 q3 nn pp = chkC 3 true 128 q3 nn pp, idxE Tryz.prog 39 (.row 0 0 64 64) (iv (q : Int)) (chkC 3 true 128 q3 nn pp) = some (.ptr 0 q 0) ∧ chkC 3 true 128 q3 nn pp = chkC 3 true 128 q3 nn pp, bv (decide ((q : Int) < 64)) = bv true])
    (m := 5) (ks := ks185) (p := fun _ _ => true) (s' := S185 (.fn 156 [] [.ptr 1 0 0]) (chkC 3 true 128 q3 nn pp) (q + 1)) (by kernel_rfl)
    ⟨iv_eq (up_eq (by omega)), ⟨loadE_ptr (bt := 34) (es := CL nn pp) (ex := true) (by kernel_rfl) rfl (CL_get hq), rfl⟩, ⟨by rw [idxE_row (e := 34) (es := CL nn pp) (ex := true) (by kernel_rfl) (by kernel_rfl) rfl hq]; simp, rfl⟩, bv_eq (decide_eq_true (by omega)), trivial⟩ hβ hr hQ
theorem idx156_3 {nn pp : Nat → Int}  : Callable Tryz.prog 185 ∧ Run Tryz.prog 185 [.row 0 0 64 64, .fn 156 [] [.ptr 1 0 0]] (chkC 3 true 128 q3 nn pp) (iv (-1)) (chkC 3 true 128 q3 nn pp) := by
  refine fn_run Tryz.func185 (c := c185) (by kernel_rfl) (by kernel_rfl) fun w0 Pr0 β0 a w Q hβ hr hfin => ?_
  have hβ0 : β0.length ≤ 5 := by rw [hβ]; exact Nat.le_refl _
  rw [c185_eq]
  have hr : Rel Tryz.prog w0 Pr0 β0 ⟨[.row 0 0 64 64, .fn 156 [] [.ptr 1 0 0]] ++ List.replicate 17 uv, chkC 3 true 128 q3 nn pp⟩ a w := hr
  refine wp_seq (evC_coarse follows_mixed (callE_sound X1_sound) (n := 0) (ex := .normal) (m := 5) (ks := (List.range 17).map (· + 2)) (p := fun _ _ => true) (s' := ⟨[.row 0 0 64 64, .fn 156 [] [.ptr 1 0 0]] ++ List.replicate 17 .dead, chkC 3 true 128 q3 nn pp⟩) (by kernel_rfl) hβ0 hr fun a w hr => wp_seq (wp_seq ?_))
  refine evC_coarse follows_mixed (callE_sound X1_sound) (n := 0) (ex := .normal) (m := 5) (ks := ks185) (p := fun _ _ => true) (s' := S185 (.fn 156 [] [.ptr 1 0 0]) (chkC 3 true 128 q3 nn pp) 0) (by kernel_rfl) hβ0 hr fun a w hr => ?_
  refine wp_block (loop_up (S := S185 (.fn 156 [] [.ptr 1 0 0]) (chkC 3 true 128 q3 nn pp)) (N := 64) (q0 := 0) (by omega) hr (fun q _ hq a w hr => idx156_3_r hq  hβ0 hr fun a w hr => hr) fun a w hr => ?_)
  refine evC_coarse follows_mixed (callE_sound X1_sound) (n := 0) (ex := .exit 0) (m := 5) (ks := ks185) (p := fun _ _ => true) (s' := S185 (.fn 156 [] [.ptr 1 0 0]) (chkC 3 true 128 q3 nn pp) 64) (by kernel_rfl) hβ0 hr fun a w hr => ?_
  refine evC_coarse follows_mixed (callE_sound X1_sound) (n := 0) (ex := .ret) (m := 5) (ks := []) (p := fun _ _ => true) (s' := ⟨(S185 (.fn 156 [] [.ptr 1 0 0]) (chkC 3 true 128 q3 nn pp) 64).tm.set 4 (iv (-1)), chkC 3 true 128 q3 nn pp⟩) (by kernel_rfl) hβ0 hr fun a w hr => ?_
  exact hfin .ret _ a w (by simp) (by kernel_rfl) hr

theorem clo155_4 {n p : Int} {nn pp : Nat → Int} (hC : Callable Tryz.prog 29 ∧ Run Tryz.prog 29 [iv 4, .agg (cellC n p)] [] (bv true) []) : Callable Tryz.prog 155 ∧ Run Tryz.prog 155 [.agg (cellC n p), .ptr 0 0 0] (chkH 4 true 128 q4 nn pp) (bv false) (chkH 4 true 128 q4 nn pp) :=
  run_of_vN X1_sound (cOne_sound hC) (F := fun _ _ => false) (n := 6) (ds := []) (rec := [[iv 4, V.agg (cellC n p)] = [iv 4, V.agg (cellC n p)] ∧ ([] : H) = []]) (by kernel_rfl) ⟨⟨rfl, rfl⟩, trivial⟩
theorem idx155_4_r {nn pp : Nat → Int} {q : Nat} (hq : q < 64) (hC : Callable Tryz.prog 29 ∧ Run Tryz.prog 29 [iv 4, .agg (cellC (nn q) (pp q))] [] (bv true) []) {w0 : World} {Pr0 : Nat → Prop} {β0 : Bt} (hβ : β0.length ≤ 5) {a : Act} {w : World} {Q : Exit → Act → World → Prop} (hr : Rel Tryz.prog w0 Pr0 β0 (S185 (.fn 155 [] [.ptr 1 0 0]) (chkC 4 true 128 q4 nn pp) q) a w)
    (hQ : ∀ a' w', Rel Tryz.prog w0 Pr0 β0 (S185 (.fn 155 [] [.ptr 1 0 0]) (chkC 4 true 128 q4 nn pp) (q + 1)) a' w' → Q .normal a' w') : x185.wp Tryz.prog Q a w :=
  evV_coarse (ex := .normal) follows_mixed X1_sound (cOne_sound (clo155_4 (nn := nn) (pp := pp) hC)) (n := 6) (k := 6) (F := F185) (F0 := F185 185) (ds := [(bv true, []), (.ptr 0 q 0, chkC 4 true 128 q4 nn pp), (.agg (cellC (nn q) (pp q)), chkC 4 true 128 q4 nn pp), (iv ((q + 1 : Nat) : Int), [])])
    (rec := [iv (IntKind.i64.wrap ((q : Int) + 1)) = iv ((q + 1 : Nat) : Int), [V.agg (cellC (nn q) (pp q)), .ptr 0 0 0] = [V.agg (cellC (nn q) (pp q)), .ptr 0 0 0] ∧ (chkH 4 true 128 q4 nn pp) = (chkH 4 true 128 q4 nn pp), loadE Tryz.prog 34 (.ptr 0 q 0) (chkC 4 true 128 q4 nn pp) = some (.agg (cellC (nn q) (pp q))) ∧ chkC 4 true 128 q4 nn pp = chkC 4 true 128 q4 nn pp, idxE Tryz.prog 39 (.row 0 0 64 64) (iv (q : Int)) (chkC 4 true 128 q4 nn pp) = some (.ptr 0 q 0) ∧ chkC 4 true 128 q4 nn pp = chkC 4 true 128 q4 nn pp, bv (decide ((q : Int) < 64)) = bv true])
    (m := 5) (ks := ks185) (p := fun _ _ => true) (s' := S185 (.fn 155 [] [.ptr 1 0 0]) (chkC 4 true 128 q4 nn pp) (q + 1)) (by kernel_rfl)
    ⟨iv_eq (up_eq (by omega)), ⟨rfl, rfl⟩, ⟨loadE_ptr (bt := 34) (es := CL nn pp) (ex := true) (by kernel_rfl) rfl (CL_get hq), rfl⟩, ⟨by rw [idxE_row (e := 34) (es := CL nn pp) (ex := true) (by kernel_rfl) (by kernel_rfl) rfl hq]; simp, rfl⟩, bv_eq (decide_eq_true (by omega)), trivial⟩ hβ hr hQ
theorem idx155_4 {nn pp : Nat → Int} (hC : ∀ q, q < 64 → Callable Tryz.prog 29 ∧ Run Tryz.prog 29 [iv 4, .agg (cellC (nn q) (pp q))] [] (bv true) []) : Callable Tryz.prog 185 ∧ Run Tryz.prog 185 [.row 0 0 64 64, .fn 155 [] [.ptr 1 0 0]] (chkC 4 true 128 q4 nn pp) (iv (-1)) (chkC 4 true 128 q4 nn pp) := by
  refine fn_run Tryz.func185 (c := c185) (by kernel_rfl) (by kernel_rfl) fun w0 Pr0 β0 a w Q hβ hr hfin => ?_
  have hβ0 : β0.length ≤ 5 := by rw [hβ]; exact Nat.le_refl _
  rw [c185_eq]
  have hr : Rel Tryz.prog w0 Pr0 β0 ⟨[.row 0 0 64 64, .fn 155 [] [.ptr 1 0 0]] ++ List.replicate 17 uv, chkC 4 true 128 q4 nn pp⟩ a w := hr
  refine wp_seq (evC_coarse follows_mixed (callE_sound X1_sound) (n := 0) (ex := .normal) (m := 5) (ks := (List.range 17).map (· + 2)) (p := fun _ _ => true) (s' := ⟨[.row 0 0 64 64, .fn 155 [] [.ptr 1 0 0]] ++ List.replicate 17 .dead, chkC 4 true 128 q4 nn pp⟩) (by kernel_rfl) hβ0 hr fun a w hr => wp_seq (wp_seq ?_))
  refine evC_coarse follows_mixed (callE_sound X1_sound) (n := 0) (ex := .normal) (m := 5) (ks := ks185) (p := fun _ _ => true) (s' := S185 (.fn 155 [] [.ptr 1 0 0]) (chkC 4 true 128 q4 nn pp) 0) (by kernel_rfl) hβ0 hr fun a w hr => ?_
  refine wp_block (loop_up (S := S185 (.fn 155 [] [.ptr 1 0 0]) (chkC 4 true 128 q4 nn pp)) (N := 64) (q0 := 0) (by omega) hr (fun q _ hq a w hr => idx155_4_r hq (hC q hq) hβ0 hr fun a w hr => hr) fun a w hr => ?_)
  refine evC_coarse follows_mixed (callE_sound X1_sound) (n := 0) (ex := .exit 0) (m := 5) (ks := ks185) (p := fun _ _ => true) (s' := S185 (.fn 155 [] [.ptr 1 0 0]) (chkC 4 true 128 q4 nn pp) 64) (by kernel_rfl) hβ0 hr fun a w hr => ?_
  refine evC_coarse follows_mixed (callE_sound X1_sound) (n := 0) (ex := .ret) (m := 5) (ks := []) (p := fun _ _ => true) (s' := ⟨(S185 (.fn 155 [] [.ptr 1 0 0]) (chkC 4 true 128 q4 nn pp) 64).tm.set 4 (iv (-1)), chkC 4 true 128 q4 nn pp⟩) (by kernel_rfl) hβ0 hr fun a w hr => ?_
  exact hfin .ret _ a w (by simp) (by kernel_rfl) hr

theorem idx156_4_r {nn pp : Nat → Int} {q : Nat} (hq : q < 64)  {w0 : World} {Pr0 : Nat → Prop} {β0 : Bt} (hβ : β0.length ≤ 5) {a : Act} {w : World} {Q : Exit → Act → World → Prop} (hr : Rel Tryz.prog w0 Pr0 β0 (S185 (.fn 156 [] [.ptr 1 0 0]) (chkC 4 true 128 q4 nn pp) q) a w)
    (hQ : ∀ a' w', Rel Tryz.prog w0 Pr0 β0 (S185 (.fn 156 [] [.ptr 1 0 0]) (chkC 4 true 128 q4 nn pp) (q + 1)) a' w' → Q .normal a' w') : x185.wp Tryz.prog Q a w :=
  evV_coarse (ex := .normal) follows_mixed X1_sound (cNone_sound) (n := 6) (k := 6) (F := F185) (F0 := F185 185) (ds := [(bv true, []), (.ptr 0 q 0, chkC 4 true 128 q4 nn pp), (.agg (cellC (nn q) (pp q)), chkC 4 true 128 q4 nn pp), (iv ((q + 1 : Nat) : Int), [])])
    (rec := [iv (IntKind.i64.wrap ((q : Int) + 1)) = iv ((q + 1 : Nat) : Int), loadE Tryz.prog 34 (.ptr 0 q 0) (chkC 4 true 128 q4 nn pp) = some (.agg (cellC (nn q) (pp q))) ∧ chkC 4 true 128 q4 nn pp = chkC 4 true 128 q4 nn pp, idxE Tryz.prog 39 (.row 0 0 64 64) (iv (q : Int)) (chkC 4 true 128 q4 nn pp) = some (.ptr 0 q 0) ∧ chkC 4 true 128 q4 nn pp = chkC 4 true 128 q4 nn pp, bv (decide ((q : Int) < 64)) = bv true])
    (m := 5) (ks := ks185) (p := fun _ _ => true) (s' := S185 (.fn 156 [] [.ptr 1 0 0]) (chkC 4 true 128 q4 nn pp) (q + 1)) (by kernel_rfl)
    ⟨iv_eq (up_eq (by omega)), ⟨loadE_ptr (bt := 34) (es := CL nn pp) (ex := true) (by kernel_rfl) rfl (CL_get hq), rfl⟩, ⟨by rw [idxE_row (e := 34) (es := CL nn pp) (ex := true) (by kernel_rfl) (by kernel_rfl) rfl hq]; simp, rfl⟩, bv_eq (decide_eq_true (by omega)), trivial⟩ hβ hr hQ
theorem idx156_4 {nn pp : Nat → Int}  : Callable Tryz.prog 185 ∧ Run Tryz.prog 185 [.row 0 0 64 64, .fn 156 [] [.ptr 1 0 0]] (chkC 4 true 128 q4 nn pp) (iv (-1)) (chkC 4 true 128 q4 nn pp) := by
  refine fn_run Tryz.func185 (c := c185) (by kernel_rfl) (by kernel_rfl) fun w0 Pr0 β0 a w Q hβ hr hfin => ?_
  have hβ0 : β0.length ≤ 5 := by rw [hβ]; exact Nat.le_refl _
  rw [c185_eq]
  have hr : Rel Tryz.prog w0 Pr0 β0 ⟨[.row 0 0 64 64, .fn 156 [] [.ptr 1 0 0]] ++ List.replicate 17 uv, chkC 4 true 128 q4 nn pp⟩ a w := hr
  refine wp_seq (evC_coarse follows_mixed (callE_sound X1_sound) (n := 0) (ex := .normal) (m := 5) (ks := (List.range 17).map (· + 2)) (p := fun _ _ => true) (s' := ⟨[.row 0 0 64 64, .fn 156 [] [.ptr 1 0 0]] ++ List.replicate 17 .dead, chkC 4 true 128 q4 nn pp⟩) (by kernel_rfl) hβ0 hr fun a w hr => wp_seq (wp_seq ?_))
  refine evC_coarse follows_mixed (callE_sound X1_sound) (n := 0) (ex := .normal) (m := 5) (ks := ks185) (p := fun _ _ => true) (s' := S185 (.fn 156 [] [.ptr 1 0 0]) (chkC 4 true 128 q4 nn pp) 0) (by kernel_rfl) hβ0 hr fun a w hr => ?_
  refine wp_block (loop_up (S := S185 (.fn 156 [] [.ptr 1 0 0]) (chkC 4 true 128 q4 nn pp)) (N := 64) (q0 := 0) (by omega) hr (fun q _ hq a w hr => idx156_4_r hq  hβ0 hr fun a w hr => hr) fun a w hr => ?_)
  refine evC_coarse follows_mixed (callE_sound X1_sound) (n := 0) (ex := .exit 0) (m := 5) (ks := ks185) (p := fun _ _ => true) (s' := S185 (.fn 156 [] [.ptr 1 0 0]) (chkC 4 true 128 q4 nn pp) 64) (by kernel_rfl) hβ0 hr fun a w hr => ?_
  refine evC_coarse follows_mixed (callE_sound X1_sound) (n := 0) (ex := .ret) (m := 5) (ks := []) (p := fun _ _ => true) (s' := ⟨(S185 (.fn 156 [] [.ptr 1 0 0]) (chkC 4 true 128 q4 nn pp) 64).tm.set 4 (iv (-1)), chkC 4 true 128 q4 nn pp⟩) (by kernel_rfl) hβ0 hr fun a w hr => ?_
  exact hfin .ret _ a w (by simp) (by kernel_rfl) hr

theorem clo155_6 {n p : Int} {nn pp : Nat → Int} (hC : Callable Tryz.prog 29 ∧ Run Tryz.prog 29 [iv 6, .agg (cellC n p)] [] (bv true) []) : Callable Tryz.prog 155 ∧ Run Tryz.prog 155 [.agg (cellC n p), .ptr 0 0 0] (chkH 6 false 128 q6 nn pp) (bv false) (chkH 6 false 128 q6 nn pp) :=
  run_of_vN X1_sound (cOne_sound hC) (F := fun _ _ => false) (n := 6) (ds := []) (rec := [[iv 6, V.agg (cellC n p)] = [iv 6, V.agg (cellC n p)] ∧ ([] : H) = []]) (by kernel_rfl) ⟨⟨rfl, rfl⟩, trivial⟩
theorem idx155_6_r {nn pp : Nat → Int} {q : Nat} (hq : q < 64) (hC : Callable Tryz.prog 29 ∧ Run Tryz.prog 29 [iv 6, .agg (cellC (nn q) (pp q))] [] (bv true) []) {w0 : World} {Pr0 : Nat → Prop} {β0 : Bt} (hβ : β0.length ≤ 5) {a : Act} {w : World} {Q : Exit → Act → World → Prop} (hr : Rel Tryz.prog w0 Pr0 β0 (S185 (.fn 155 [] [.ptr 1 0 0]) (chkC 6 false 128 q6 nn pp) q) a w)
    (hQ : ∀ a' w', Rel Tryz.prog w0 Pr0 β0 (S185 (.fn 155 [] [.ptr 1 0 0]) (chkC 6 false 128 q6 nn pp) (q + 1)) a' w' → Q .normal a' w') : x185.wp Tryz.prog Q a w :=
  evV_coarse (ex := .normal) follows_mixed X1_sound (cOne_sound (clo155_6 (nn := nn) (pp := pp) hC)) (n := 6) (k := 6) (F := F185) (F0 := F185 185) (ds := [(bv true, []), (.ptr 0 q 0, chkC 6 false 128 q6 nn pp), (.agg (cellC (nn q) (pp q)), chkC 6 false 128 q6 nn pp), (iv ((q + 1 : Nat) : Int), [])])
    (rec := [iv (IntKind.i64.wrap ((q : Int) + 1)) = iv ((q + 1 : Nat) : Int), [V.agg (cellC (nn q) (pp q)), .ptr 0 0 0] = [V.agg (cellC (nn q) (pp q)), .ptr 0 0 0] ∧ (chkH 6 false 128 q6 nn pp) = (chkH 6 false 128 q6 nn pp), loadE Tryz.prog 34 (.ptr 0 q 0) (chkC 6 false 128 q6 nn pp) = some (.agg (cellC (nn q) (pp q))) ∧ chkC 6 false 128 q6 nn pp = chkC 6 false 128 q6 nn pp, idxE Tryz.prog 39 (.row 0 0 64 64) (iv (q : Int)) (chkC 6 false 128 q6 nn pp) = some (.ptr 0 q 0) ∧ chkC 6 false 128 q6 nn pp = chkC 6 false 128 q6 nn pp, bv (decide ((q : Int) < 64)) = bv true])
    (m := 5) (ks := ks185) (p := fun _ _ => true) (s' := S185 (.fn 155 [] [.ptr 1 0 0]) (chkC 6 false 128 q6 nn pp) (q + 1)) (by kernel_rfl)
    ⟨iv_eq (up_eq (by omega)), ⟨rfl, rfl⟩, ⟨loadE_ptr (bt := 34) (es := CL nn pp) (ex := true) (by kernel_rfl) rfl (CL_get hq), rfl⟩, ⟨by rw [idxE_row (e := 34) (es := CL nn pp) (ex := true) (by kernel_rfl) (by kernel_rfl) rfl hq]; simp, rfl⟩, bv_eq (decide_eq_true (by omega)), trivial⟩ hβ hr hQ
theorem idx155_6 {nn pp : Nat → Int} (hC : ∀ q, q < 64 → Callable Tryz.prog 29 ∧ Run Tryz.prog 29 [iv 6, .agg (cellC (nn q) (pp q))] [] (bv true) []) : Callable Tryz.prog 185 ∧ Run Tryz.prog 185 [.row 0 0 64 64, .fn 155 [] [.ptr 1 0 0]] (chkC 6 false 128 q6 nn pp) (iv (-1)) (chkC 6 false 128 q6 nn pp) := by
  refine fn_run Tryz.func185 (c := c185) (by kernel_rfl) (by kernel_rfl) fun w0 Pr0 β0 a w Q hβ hr hfin => ?_
  have hβ0 : β0.length ≤ 5 := by rw [hβ]; exact Nat.le_refl _
  rw [c185_eq]
  have hr : Rel Tryz.prog w0 Pr0 β0 ⟨[.row 0 0 64 64, .fn 155 [] [.ptr 1 0 0]] ++ List.replicate 17 uv, chkC 6 false 128 q6 nn pp⟩ a w := hr
  refine wp_seq (evC_coarse follows_mixed (callE_sound X1_sound) (n := 0) (ex := .normal) (m := 5) (ks := (List.range 17).map (· + 2)) (p := fun _ _ => true) (s' := ⟨[.row 0 0 64 64, .fn 155 [] [.ptr 1 0 0]] ++ List.replicate 17 .dead, chkC 6 false 128 q6 nn pp⟩) (by kernel_rfl) hβ0 hr fun a w hr => wp_seq (wp_seq ?_))
  refine evC_coarse follows_mixed (callE_sound X1_sound) (n := 0) (ex := .normal) (m := 5) (ks := ks185) (p := fun _ _ => true) (s' := S185 (.fn 155 [] [.ptr 1 0 0]) (chkC 6 false 128 q6 nn pp) 0) (by kernel_rfl) hβ0 hr fun a w hr => ?_
  refine wp_block (loop_up (S := S185 (.fn 155 [] [.ptr 1 0 0]) (chkC 6 false 128 q6 nn pp)) (N := 64) (q0 := 0) (by omega) hr (fun q _ hq a w hr => idx155_6_r hq (hC q hq) hβ0 hr fun a w hr => hr) fun a w hr => ?_)
  refine evC_coarse follows_mixed (callE_sound X1_sound) (n := 0) (ex := .exit 0) (m := 5) (ks := ks185) (p := fun _ _ => true) (s' := S185 (.fn 155 [] [.ptr 1 0 0]) (chkC 6 false 128 q6 nn pp) 64) (by kernel_rfl) hβ0 hr fun a w hr => ?_
  refine evC_coarse follows_mixed (callE_sound X1_sound) (n := 0) (ex := .ret) (m := 5) (ks := []) (p := fun _ _ => true) (s' := ⟨(S185 (.fn 155 [] [.ptr 1 0 0]) (chkC 6 false 128 q6 nn pp) 64).tm.set 4 (iv (-1)), chkC 6 false 128 q6 nn pp⟩) (by kernel_rfl) hβ0 hr fun a w hr => ?_
  exact hfin .ret _ a w (by simp) (by kernel_rfl) hr

theorem idx156_6_r {nn pp : Nat → Int} {q : Nat} (hq : q < 64)  {w0 : World} {Pr0 : Nat → Prop} {β0 : Bt} (hβ : β0.length ≤ 5) {a : Act} {w : World} {Q : Exit → Act → World → Prop} (hr : Rel Tryz.prog w0 Pr0 β0 (S185 (.fn 156 [] [.ptr 1 0 0]) (chkC 6 false 128 q6 nn pp) q) a w)
    (hQ : ∀ a' w', Rel Tryz.prog w0 Pr0 β0 (S185 (.fn 156 [] [.ptr 1 0 0]) (chkC 6 false 128 q6 nn pp) (q + 1)) a' w' → Q .normal a' w') : x185.wp Tryz.prog Q a w :=
  evV_coarse (ex := .normal) follows_mixed X1_sound (cNone_sound) (n := 6) (k := 6) (F := F185) (F0 := F185 185) (ds := [(bv true, []), (.ptr 0 q 0, chkC 6 false 128 q6 nn pp), (.agg (cellC (nn q) (pp q)), chkC 6 false 128 q6 nn pp), (iv ((q + 1 : Nat) : Int), [])])
    (rec := [iv (IntKind.i64.wrap ((q : Int) + 1)) = iv ((q + 1 : Nat) : Int), loadE Tryz.prog 34 (.ptr 0 q 0) (chkC 6 false 128 q6 nn pp) = some (.agg (cellC (nn q) (pp q))) ∧ chkC 6 false 128 q6 nn pp = chkC 6 false 128 q6 nn pp, idxE Tryz.prog 39 (.row 0 0 64 64) (iv (q : Int)) (chkC 6 false 128 q6 nn pp) = some (.ptr 0 q 0) ∧ chkC 6 false 128 q6 nn pp = chkC 6 false 128 q6 nn pp, bv (decide ((q : Int) < 64)) = bv true])
    (m := 5) (ks := ks185) (p := fun _ _ => true) (s' := S185 (.fn 156 [] [.ptr 1 0 0]) (chkC 6 false 128 q6 nn pp) (q + 1)) (by kernel_rfl)
    ⟨iv_eq (up_eq (by omega)), ⟨loadE_ptr (bt := 34) (es := CL nn pp) (ex := true) (by kernel_rfl) rfl (CL_get hq), rfl⟩, ⟨by rw [idxE_row (e := 34) (es := CL nn pp) (ex := true) (by kernel_rfl) (by kernel_rfl) rfl hq]; simp, rfl⟩, bv_eq (decide_eq_true (by omega)), trivial⟩ hβ hr hQ
theorem idx156_6 {nn pp : Nat → Int}  : Callable Tryz.prog 185 ∧ Run Tryz.prog 185 [.row 0 0 64 64, .fn 156 [] [.ptr 1 0 0]] (chkC 6 false 128 q6 nn pp) (iv (-1)) (chkC 6 false 128 q6 nn pp) := by
  refine fn_run Tryz.func185 (c := c185) (by kernel_rfl) (by kernel_rfl) fun w0 Pr0 β0 a w Q hβ hr hfin => ?_
  have hβ0 : β0.length ≤ 5 := by rw [hβ]; exact Nat.le_refl _
  rw [c185_eq]
  have hr : Rel Tryz.prog w0 Pr0 β0 ⟨[.row 0 0 64 64, .fn 156 [] [.ptr 1 0 0]] ++ List.replicate 17 uv, chkC 6 false 128 q6 nn pp⟩ a w := hr
  refine wp_seq (evC_coarse follows_mixed (callE_sound X1_sound) (n := 0) (ex := .normal) (m := 5) (ks := (List.range 17).map (· + 2)) (p := fun _ _ => true) (s' := ⟨[.row 0 0 64 64, .fn 156 [] [.ptr 1 0 0]] ++ List.replicate 17 .dead, chkC 6 false 128 q6 nn pp⟩) (by kernel_rfl) hβ0 hr fun a w hr => wp_seq (wp_seq ?_))
  refine evC_coarse follows_mixed (callE_sound X1_sound) (n := 0) (ex := .normal) (m := 5) (ks := ks185) (p := fun _ _ => true) (s' := S185 (.fn 156 [] [.ptr 1 0 0]) (chkC 6 false 128 q6 nn pp) 0) (by kernel_rfl) hβ0 hr fun a w hr => ?_
  refine wp_block (loop_up (S := S185 (.fn 156 [] [.ptr 1 0 0]) (chkC 6 false 128 q6 nn pp)) (N := 64) (q0 := 0) (by omega) hr (fun q _ hq a w hr => idx156_6_r hq  hβ0 hr fun a w hr => hr) fun a w hr => ?_)
  refine evC_coarse follows_mixed (callE_sound X1_sound) (n := 0) (ex := .exit 0) (m := 5) (ks := ks185) (p := fun _ _ => true) (s' := S185 (.fn 156 [] [.ptr 1 0 0]) (chkC 6 false 128 q6 nn pp) 64) (by kernel_rfl) hβ0 hr fun a w hr => ?_
  refine evC_coarse follows_mixed (callE_sound X1_sound) (n := 0) (ex := .ret) (m := 5) (ks := []) (p := fun _ _ => true) (s' := ⟨(S185 (.fn 156 [] [.ptr 1 0 0]) (chkC 6 false 128 q6 nn pp) 64).tm.set 4 (iv (-1)), chkC 6 false 128 q6 nn pp⟩) (by kernel_rfl) hβ0 hr fun a w hr => ?_
  exact hfin .ret _ a w (by simp) (by kernel_rfl) hr

end Go.Ab

set_option linter.unusedVariables false
set_option linter.unusedSimpArgs false
namespace Go.Ab
open Go.Proofs
set_option maxRecDepth 100000

/-! ### song.Valid and order.Start on the song -/
/-- A known call, of some arguments only. -/
def cOn (p : List V → Bool) (Y : Cnd) : Cnd := fun K args h => if p args then Y K args h else none
theorem cOn_sound {P : Program} {p : List V → Bool} {Y : Cnd} (hY : CSound P Y) : CSound P (cOn p Y) := by
  intro K args h v h' l he hk
  unfold cOn at he
  split at he
  · exact hY K args h v h' l he hk
  · cases he
def clo (k : Nat) : List V → Bool
  | [_, .fn j _ _] => j == k
  | _ => false
theorem con184 {nn pp : Nat → Int} (hC : ∀ q, q < 64 → Callable Tryz.prog 57 ∧ Run Tryz.prog 57 [.agg (cellC (nn q) (pp q))] [] (bv true) []) : Callable Tryz.prog 154 ∧ Run Tryz.prog 154 [.row 0 0 64 64, .fn 184 [] []] (cH nn pp) (bv false) (cH nn pp) :=
  run_of_vN X1_sound (cOne_sound (idx184 hC)) (F := fun _ _ => false) (n := 6) (ds := []) (rec := [[V.row 0 0 64 64, .fn 184 [] []] = [V.row 0 0 64 64, .fn 184 [] []] ∧ cH nn pp = cH nn pp]) (by kernel_rfl) ⟨⟨rfl, rfl⟩, trivial⟩
theorem pat153 {nn pp : Nat → Int} (hC : ∀ q, q < 64 → Callable Tryz.prog 57 ∧ Run Tryz.prog 57 [.agg (cellC (nn q) (pp q))] [] (bv true) []) : Callable Tryz.prog 153 ∧ Run Tryz.prog 153 [.agg [iv 64, .row 0 0 64 64], iv 1] (cH nn pp) (bv true) (cH nn pp) :=
  run_of_vN X1_sound (cOne_sound (con184 hC)) (F := fun _ _ => false) (n := 6) (ds := []) (rec := [[V.row 0 0 64 64, .fn 184 [] []] = [V.row 0 0 64 64, .fn 184 [] []] ∧ cH nn pp = cH nn pp]) (by kernel_rfl) ⟨⟨rfl, rfl⟩, trivial⟩
theorem con155_1 {nn pp : Nat → Int} (hD : ∀ q, q < 64 → Callable Tryz.prog 29 ∧ Run Tryz.prog 29 [iv 1, .agg (cellC (nn q) (pp q))] [] (bv true) []) : Callable Tryz.prog 154 ∧ Run Tryz.prog 154 [.row 0 0 64 64, .fn 155 [] [.ptr 1 0 0]] (chkC 1 false 0 q1 nn pp) (bv false) (chkC 1 false 0 q1 nn pp) :=
  run_of_vN X1_sound (cOne_sound (idx155_1 hD)) (F := fun _ _ => false) (n := 6) (ds := []) (rec := [[V.row 0 0 64 64, .fn 155 [] [.ptr 1 0 0]] = [V.row 0 0 64 64, .fn 155 [] [.ptr 1 0 0]] ∧ chkC 1 false 0 q1 nn pp = chkC 1 false 0 q1 nn pp]) (by kernel_rfl) ⟨⟨rfl, rfl⟩, trivial⟩
theorem con156_1 {nn pp : Nat → Int}  : Callable Tryz.prog 154 ∧ Run Tryz.prog 154 [.row 0 0 64 64, .fn 156 [] [.ptr 1 0 0]] (chkC 1 false 0 q1 nn pp) (bv false) (chkC 1 false 0 q1 nn pp) :=
  run_of_vN X1_sound (cOne_sound (idx156_1 (nn := nn) (pp := pp))) (F := fun _ _ => false) (n := 6) (ds := []) (rec := [[V.row 0 0 64 64, .fn 156 [] [.ptr 1 0 0]] = [V.row 0 0 64 64, .fn 156 [] [.ptr 1 0 0]] ∧ chkC 1 false 0 q1 nn pp = chkC 1 false 0 q1 nn pp]) (by kernel_rfl) ⟨⟨rfl, rfl⟩, trivial⟩
theorem pats_1 {nn pp : Nat → Int} (hC : ∀ q, q < 64 → Callable Tryz.prog 57 ∧ Run Tryz.prog 57 [.agg (cellC (nn q) (pp q))] [] (bv true) []) (hD : ∀ q, q < 64 → Callable Tryz.prog 29 ∧ Run Tryz.prog 29 [iv 1, .agg (cellC (nn q) (pp q))] [] (bv true) []) : Callable Tryz.prog 84 ∧ Run Tryz.prog 84 [.agg (songC 1 false 0 ++ q1)] (blankH 0 (CL nn pp)) (.tup [.agg [sv ⟨#[]⟩, iv 0, iv 0], bv false]) (blankH 0 (CL nn pp)) :=
  run_of_vN X1_sound (cOr_sound (cOne_sound (pat153 hC)) (cOr_sound (cOn_sound (p := clo 155) (cOne_sound (con155_1 hD))) (cOn_sound (p := clo 156) (cOne_sound (con156_1 (nn := nn) (pp := pp)))))) (F := fun _ _ => false) (n := 6) (ds := [])
    (rec := [[V.row 0 0 64 64, .fn 156 [] [.ptr 1 0 0]] = [V.row 0 0 64 64, .fn 156 [] [.ptr 1 0 0]] ∧ chkC 1 false 0 q1 nn pp = chkC 1 false 0 q1 nn pp, [V.row 0 0 64 64, .fn 155 [] [.ptr 1 0 0]] = [V.row 0 0 64 64, .fn 155 [] [.ptr 1 0 0]] ∧ chkC 1 false 0 q1 nn pp = chkC 1 false 0 q1 nn pp, [V.agg [iv 64, .row 0 0 64 64], iv 1] = [V.agg [iv 64, .row 0 0 64 64], iv 1] ∧ cH nn pp = cH nn pp]) (by kernel_rfl) ⟨⟨rfl, rfl⟩, ⟨rfl, rfl⟩, ⟨rfl, rfl⟩, trivial⟩
theorem start_1 {nn pp : Nat → Int} (hC : ∀ q, q < 64 → Callable Tryz.prog 57 ∧ Run Tryz.prog 57 [.agg (cellC (nn q) (pp q))] [] (bv true) []) (hD : ∀ q, q < 64 → Callable Tryz.prog 29 ∧ Run Tryz.prog 29 [iv 1, .agg (cellC (nn q) (pp q))] [] (bv true) []) : Callable Tryz.prog 12 ∧ Run Tryz.prog 12 [.agg (songV 1 false), iv 0] (blankH 0 (CL nn pp)) (.tup [.agg (clockV 0 0 0), iv 0]) (blankH 0 (CL nn pp)) :=
  run_of_vN X1_sound (cOr_sound (cOne_sound (pats_1 hC hD)) (cOne_sound quirk_1)) (F := fun _ _ => false) (n := 12) (ds := [])
    (rec := [[V.agg (songC 1 false 0 ++ q1)] = [V.agg (songC 1 false 0 ++ q1)] ∧ blankH 0 (CL nn pp) = blankH 0 (CL nn pp), [iv 1] = [iv 1] ∧ ([] : H) = []]) (by kernel_rfl) ⟨⟨rfl, rfl⟩, ⟨rfl, rfl⟩, trivial⟩
theorem con155_2 {nn pp : Nat → Int} (hD : ∀ q, q < 64 → Callable Tryz.prog 29 ∧ Run Tryz.prog 29 [iv 2, .agg (cellC (nn q) (pp q))] [] (bv true) []) : Callable Tryz.prog 154 ∧ Run Tryz.prog 154 [.row 0 0 64 64, .fn 155 [] [.ptr 1 0 0]] (chkC 2 false 128 q2 nn pp) (bv false) (chkC 2 false 128 q2 nn pp) :=
  run_of_vN X1_sound (cOne_sound (idx155_2 hD)) (F := fun _ _ => false) (n := 6) (ds := []) (rec := [[V.row 0 0 64 64, .fn 155 [] [.ptr 1 0 0]] = [V.row 0 0 64 64, .fn 155 [] [.ptr 1 0 0]] ∧ chkC 2 false 128 q2 nn pp = chkC 2 false 128 q2 nn pp]) (by kernel_rfl) ⟨⟨rfl, rfl⟩, trivial⟩
theorem con156_2 {nn pp : Nat → Int}  : Callable Tryz.prog 154 ∧ Run Tryz.prog 154 [.row 0 0 64 64, .fn 156 [] [.ptr 1 0 0]] (chkC 2 false 128 q2 nn pp) (bv false) (chkC 2 false 128 q2 nn pp) :=
  run_of_vN X1_sound (cOne_sound (idx156_2 (nn := nn) (pp := pp))) (F := fun _ _ => false) (n := 6) (ds := []) (rec := [[V.row 0 0 64 64, .fn 156 [] [.ptr 1 0 0]] = [V.row 0 0 64 64, .fn 156 [] [.ptr 1 0 0]] ∧ chkC 2 false 128 q2 nn pp = chkC 2 false 128 q2 nn pp]) (by kernel_rfl) ⟨⟨rfl, rfl⟩, trivial⟩
theorem pats_2 {nn pp : Nat → Int} (hC : ∀ q, q < 64 → Callable Tryz.prog 57 ∧ Run Tryz.prog 57 [.agg (cellC (nn q) (pp q))] [] (bv true) []) (hD : ∀ q, q < 64 → Callable Tryz.prog 29 ∧ Run Tryz.prog 29 [iv 2, .agg (cellC (nn q) (pp q))] [] (bv true) []) : Callable Tryz.prog 84 ∧ Run Tryz.prog 84 [.agg (songC 2 false 0 ++ q2)] (blankH 128 (CL nn pp)) (.tup [.agg [sv ⟨#[]⟩, iv 0, iv 0], bv false]) (blankH 128 (CL nn pp)) :=
  run_of_vN X1_sound (cOr_sound (cOne_sound (pat153 hC)) (cOr_sound (cOn_sound (p := clo 155) (cOne_sound (con155_2 hD))) (cOn_sound (p := clo 156) (cOne_sound (con156_2 (nn := nn) (pp := pp)))))) (F := fun _ _ => false) (n := 6) (ds := [])
    (rec := [[V.row 0 0 64 64, .fn 156 [] [.ptr 1 0 0]] = [V.row 0 0 64 64, .fn 156 [] [.ptr 1 0 0]] ∧ chkC 2 false 128 q2 nn pp = chkC 2 false 128 q2 nn pp, [V.row 0 0 64 64, .fn 155 [] [.ptr 1 0 0]] = [V.row 0 0 64 64, .fn 155 [] [.ptr 1 0 0]] ∧ chkC 2 false 128 q2 nn pp = chkC 2 false 128 q2 nn pp, [V.agg [iv 64, .row 0 0 64 64], iv 1] = [V.agg [iv 64, .row 0 0 64 64], iv 1] ∧ cH nn pp = cH nn pp]) (by kernel_rfl) ⟨⟨rfl, rfl⟩, ⟨rfl, rfl⟩, ⟨rfl, rfl⟩, trivial⟩
theorem start_2 {nn pp : Nat → Int} (hC : ∀ q, q < 64 → Callable Tryz.prog 57 ∧ Run Tryz.prog 57 [.agg (cellC (nn q) (pp q))] [] (bv true) []) (hD : ∀ q, q < 64 → Callable Tryz.prog 29 ∧ Run Tryz.prog 29 [iv 2, .agg (cellC (nn q) (pp q))] [] (bv true) []) : Callable Tryz.prog 12 ∧ Run Tryz.prog 12 [.agg (songV 2 false), iv 0] (blankH 128 (CL nn pp)) (.tup [.agg (clockV 0 0 0), iv 0]) (blankH 128 (CL nn pp)) :=
  run_of_vN X1_sound (cOr_sound (cOne_sound (pats_2 hC hD)) (cOne_sound quirk_2)) (F := fun _ _ => false) (n := 12) (ds := [])
    (rec := [[V.agg (songC 2 false 0 ++ q2)] = [V.agg (songC 2 false 0 ++ q2)] ∧ blankH 128 (CL nn pp) = blankH 128 (CL nn pp), [iv 2] = [iv 2] ∧ ([] : H) = []]) (by kernel_rfl) ⟨⟨rfl, rfl⟩, ⟨rfl, rfl⟩, trivial⟩
theorem con155_3 {nn pp : Nat → Int} (hD : ∀ q, q < 64 → Callable Tryz.prog 29 ∧ Run Tryz.prog 29 [iv 3, .agg (cellC (nn q) (pp q))] [] (bv true) []) : Callable Tryz.prog 154 ∧ Run Tryz.prog 154 [.row 0 0 64 64, .fn 155 [] [.ptr 1 0 0]] (chkC 3 true 128 q3 nn pp) (bv false) (chkC 3 true 128 q3 nn pp) :=
  run_of_vN X1_sound (cOne_sound (idx155_3 hD)) (F := fun _ _ => false) (n := 6) (ds := []) (rec := [[V.row 0 0 64 64, .fn 155 [] [.ptr 1 0 0]] = [V.row 0 0 64 64, .fn 155 [] [.ptr 1 0 0]] ∧ chkC 3 true 128 q3 nn pp = chkC 3 true 128 q3 nn pp]) (by kernel_rfl) ⟨⟨rfl, rfl⟩, trivial⟩
theorem con156_3 {nn pp : Nat → Int}  : Callable Tryz.prog 154 ∧ Run Tryz.prog 154 [.row 0 0 64 64, .fn 156 [] [.ptr 1 0 0]] (chkC 3 true 128 q3 nn pp) (bv false) (chkC 3 true 128 q3 nn pp) :=
  run_of_vN X1_sound (cOne_sound (idx156_3 (nn := nn) (pp := pp))) (F := fun _ _ => false) (n := 6) (ds := []) (rec := [[V.row 0 0 64 64, .fn 156 [] [.ptr 1 0 0]] = [V.row 0 0 64 64, .fn 156 [] [.ptr 1 0 0]] ∧ chkC 3 true 128 q3 nn pp = chkC 3 true 128 q3 nn pp]) (by kernel_rfl) ⟨⟨rfl, rfl⟩, trivial⟩
theorem pats_3 {nn pp : Nat → Int} (hC : ∀ q, q < 64 → Callable Tryz.prog 57 ∧ Run Tryz.prog 57 [.agg (cellC (nn q) (pp q))] [] (bv true) []) (hD : ∀ q, q < 64 → Callable Tryz.prog 29 ∧ Run Tryz.prog 29 [iv 3, .agg (cellC (nn q) (pp q))] [] (bv true) []) : Callable Tryz.prog 84 ∧ Run Tryz.prog 84 [.agg (songC 3 true 0 ++ q3)] (blankH 128 (CL nn pp)) (.tup [.agg [sv ⟨#[]⟩, iv 0, iv 0], bv false]) (blankH 128 (CL nn pp)) :=
  run_of_vN X1_sound (cOr_sound (cOne_sound (pat153 hC)) (cOr_sound (cOn_sound (p := clo 155) (cOne_sound (con155_3 hD))) (cOn_sound (p := clo 156) (cOne_sound (con156_3 (nn := nn) (pp := pp)))))) (F := fun _ _ => false) (n := 6) (ds := [])
    (rec := [[V.row 0 0 64 64, .fn 156 [] [.ptr 1 0 0]] = [V.row 0 0 64 64, .fn 156 [] [.ptr 1 0 0]] ∧ chkC 3 true 128 q3 nn pp = chkC 3 true 128 q3 nn pp, [V.row 0 0 64 64, .fn 155 [] [.ptr 1 0 0]] = [V.row 0 0 64 64, .fn 155 [] [.ptr 1 0 0]] ∧ chkC 3 true 128 q3 nn pp = chkC 3 true 128 q3 nn pp, [V.agg [iv 64, .row 0 0 64 64], iv 1] = [V.agg [iv 64, .row 0 0 64 64], iv 1] ∧ cH nn pp = cH nn pp]) (by kernel_rfl) ⟨⟨rfl, rfl⟩, ⟨rfl, rfl⟩, ⟨rfl, rfl⟩, trivial⟩
theorem start_3 {nn pp : Nat → Int} (hC : ∀ q, q < 64 → Callable Tryz.prog 57 ∧ Run Tryz.prog 57 [.agg (cellC (nn q) (pp q))] [] (bv true) []) (hD : ∀ q, q < 64 → Callable Tryz.prog 29 ∧ Run Tryz.prog 29 [iv 3, .agg (cellC (nn q) (pp q))] [] (bv true) []) : Callable Tryz.prog 12 ∧ Run Tryz.prog 12 [.agg (songV 3 true), iv 0] (blankH 128 (CL nn pp)) (.tup [.agg (clockV 0 0 0), iv 0]) (blankH 128 (CL nn pp)) :=
  run_of_vN X1_sound (cOr_sound (cOne_sound (pats_3 hC hD)) (cOne_sound quirk_3)) (F := fun _ _ => false) (n := 12) (ds := [])
    (rec := [[V.agg (songC 3 true 0 ++ q3)] = [V.agg (songC 3 true 0 ++ q3)] ∧ blankH 128 (CL nn pp) = blankH 128 (CL nn pp), [iv 3] = [iv 3] ∧ ([] : H) = []]) (by kernel_rfl) ⟨⟨rfl, rfl⟩, ⟨rfl, rfl⟩, trivial⟩
theorem con155_4 {nn pp : Nat → Int} (hD : ∀ q, q < 64 → Callable Tryz.prog 29 ∧ Run Tryz.prog 29 [iv 4, .agg (cellC (nn q) (pp q))] [] (bv true) []) : Callable Tryz.prog 154 ∧ Run Tryz.prog 154 [.row 0 0 64 64, .fn 155 [] [.ptr 1 0 0]] (chkC 4 true 128 q4 nn pp) (bv false) (chkC 4 true 128 q4 nn pp) :=
  run_of_vN X1_sound (cOne_sound (idx155_4 hD)) (F := fun _ _ => false) (n := 6) (ds := []) (rec := [[V.row 0 0 64 64, .fn 155 [] [.ptr 1 0 0]] = [V.row 0 0 64 64, .fn 155 [] [.ptr 1 0 0]] ∧ chkC 4 true 128 q4 nn pp = chkC 4 true 128 q4 nn pp]) (by kernel_rfl) ⟨⟨rfl, rfl⟩, trivial⟩
theorem con156_4 {nn pp : Nat → Int}  : Callable Tryz.prog 154 ∧ Run Tryz.prog 154 [.row 0 0 64 64, .fn 156 [] [.ptr 1 0 0]] (chkC 4 true 128 q4 nn pp) (bv false) (chkC 4 true 128 q4 nn pp) :=
  run_of_vN X1_sound (cOne_sound (idx156_4 (nn := nn) (pp := pp))) (F := fun _ _ => false) (n := 6) (ds := []) (rec := [[V.row 0 0 64 64, .fn 156 [] [.ptr 1 0 0]] = [V.row 0 0 64 64, .fn 156 [] [.ptr 1 0 0]] ∧ chkC 4 true 128 q4 nn pp = chkC 4 true 128 q4 nn pp]) (by kernel_rfl) ⟨⟨rfl, rfl⟩, trivial⟩
theorem pats_4 {nn pp : Nat → Int} (hC : ∀ q, q < 64 → Callable Tryz.prog 57 ∧ Run Tryz.prog 57 [.agg (cellC (nn q) (pp q))] [] (bv true) []) (hD : ∀ q, q < 64 → Callable Tryz.prog 29 ∧ Run Tryz.prog 29 [iv 4, .agg (cellC (nn q) (pp q))] [] (bv true) []) : Callable Tryz.prog 84 ∧ Run Tryz.prog 84 [.agg (songC 4 true 0 ++ q4)] (blankH 128 (CL nn pp)) (.tup [.agg [sv ⟨#[]⟩, iv 0, iv 0], bv false]) (blankH 128 (CL nn pp)) :=
  run_of_vN X1_sound (cOr_sound (cOne_sound (pat153 hC)) (cOr_sound (cOn_sound (p := clo 155) (cOne_sound (con155_4 hD))) (cOn_sound (p := clo 156) (cOne_sound (con156_4 (nn := nn) (pp := pp)))))) (F := fun _ _ => false) (n := 6) (ds := [])
    (rec := [[V.row 0 0 64 64, .fn 156 [] [.ptr 1 0 0]] = [V.row 0 0 64 64, .fn 156 [] [.ptr 1 0 0]] ∧ chkC 4 true 128 q4 nn pp = chkC 4 true 128 q4 nn pp, [V.row 0 0 64 64, .fn 155 [] [.ptr 1 0 0]] = [V.row 0 0 64 64, .fn 155 [] [.ptr 1 0 0]] ∧ chkC 4 true 128 q4 nn pp = chkC 4 true 128 q4 nn pp, [V.agg [iv 64, .row 0 0 64 64], iv 1] = [V.agg [iv 64, .row 0 0 64 64], iv 1] ∧ cH nn pp = cH nn pp]) (by kernel_rfl) ⟨⟨rfl, rfl⟩, ⟨rfl, rfl⟩, ⟨rfl, rfl⟩, trivial⟩
theorem start_4 {nn pp : Nat → Int} (hC : ∀ q, q < 64 → Callable Tryz.prog 57 ∧ Run Tryz.prog 57 [.agg (cellC (nn q) (pp q))] [] (bv true) []) (hD : ∀ q, q < 64 → Callable Tryz.prog 29 ∧ Run Tryz.prog 29 [iv 4, .agg (cellC (nn q) (pp q))] [] (bv true) []) : Callable Tryz.prog 12 ∧ Run Tryz.prog 12 [.agg (songV 4 true), iv 0] (blankH 128 (CL nn pp)) (.tup [.agg (clockV 0 0 0), iv 0]) (blankH 128 (CL nn pp)) :=
  run_of_vN X1_sound (cOr_sound (cOne_sound (pats_4 hC hD)) (cOne_sound quirk_4)) (F := fun _ _ => false) (n := 12) (ds := [])
    (rec := [[V.agg (songC 4 true 0 ++ q4)] = [V.agg (songC 4 true 0 ++ q4)] ∧ blankH 128 (CL nn pp) = blankH 128 (CL nn pp), [iv 4] = [iv 4] ∧ ([] : H) = []]) (by kernel_rfl) ⟨⟨rfl, rfl⟩, ⟨rfl, rfl⟩, trivial⟩
theorem con155_6 {nn pp : Nat → Int} (hD : ∀ q, q < 64 → Callable Tryz.prog 29 ∧ Run Tryz.prog 29 [iv 6, .agg (cellC (nn q) (pp q))] [] (bv true) []) : Callable Tryz.prog 154 ∧ Run Tryz.prog 154 [.row 0 0 64 64, .fn 155 [] [.ptr 1 0 0]] (chkC 6 false 128 q6 nn pp) (bv false) (chkC 6 false 128 q6 nn pp) :=
  run_of_vN X1_sound (cOne_sound (idx155_6 hD)) (F := fun _ _ => false) (n := 6) (ds := []) (rec := [[V.row 0 0 64 64, .fn 155 [] [.ptr 1 0 0]] = [V.row 0 0 64 64, .fn 155 [] [.ptr 1 0 0]] ∧ chkC 6 false 128 q6 nn pp = chkC 6 false 128 q6 nn pp]) (by kernel_rfl) ⟨⟨rfl, rfl⟩, trivial⟩
theorem con156_6 {nn pp : Nat → Int}  : Callable Tryz.prog 154 ∧ Run Tryz.prog 154 [.row 0 0 64 64, .fn 156 [] [.ptr 1 0 0]] (chkC 6 false 128 q6 nn pp) (bv false) (chkC 6 false 128 q6 nn pp) :=
  run_of_vN X1_sound (cOne_sound (idx156_6 (nn := nn) (pp := pp))) (F := fun _ _ => false) (n := 6) (ds := []) (rec := [[V.row 0 0 64 64, .fn 156 [] [.ptr 1 0 0]] = [V.row 0 0 64 64, .fn 156 [] [.ptr 1 0 0]] ∧ chkC 6 false 128 q6 nn pp = chkC 6 false 128 q6 nn pp]) (by kernel_rfl) ⟨⟨rfl, rfl⟩, trivial⟩
theorem pats_6 {nn pp : Nat → Int} (hC : ∀ q, q < 64 → Callable Tryz.prog 57 ∧ Run Tryz.prog 57 [.agg (cellC (nn q) (pp q))] [] (bv true) []) (hD : ∀ q, q < 64 → Callable Tryz.prog 29 ∧ Run Tryz.prog 29 [iv 6, .agg (cellC (nn q) (pp q))] [] (bv true) []) : Callable Tryz.prog 84 ∧ Run Tryz.prog 84 [.agg (songC 6 false 0 ++ q6)] (blankH 128 (CL nn pp)) (.tup [.agg [sv ⟨#[]⟩, iv 0, iv 0], bv false]) (blankH 128 (CL nn pp)) :=
  run_of_vN X1_sound (cOr_sound (cOne_sound (pat153 hC)) (cOr_sound (cOn_sound (p := clo 155) (cOne_sound (con155_6 hD))) (cOn_sound (p := clo 156) (cOne_sound (con156_6 (nn := nn) (pp := pp)))))) (F := fun _ _ => false) (n := 6) (ds := [])
    (rec := [[V.row 0 0 64 64, .fn 156 [] [.ptr 1 0 0]] = [V.row 0 0 64 64, .fn 156 [] [.ptr 1 0 0]] ∧ chkC 6 false 128 q6 nn pp = chkC 6 false 128 q6 nn pp, [V.row 0 0 64 64, .fn 155 [] [.ptr 1 0 0]] = [V.row 0 0 64 64, .fn 155 [] [.ptr 1 0 0]] ∧ chkC 6 false 128 q6 nn pp = chkC 6 false 128 q6 nn pp, [V.agg [iv 64, .row 0 0 64 64], iv 1] = [V.agg [iv 64, .row 0 0 64 64], iv 1] ∧ cH nn pp = cH nn pp]) (by kernel_rfl) ⟨⟨rfl, rfl⟩, ⟨rfl, rfl⟩, ⟨rfl, rfl⟩, trivial⟩
theorem start_6 {nn pp : Nat → Int} (hC : ∀ q, q < 64 → Callable Tryz.prog 57 ∧ Run Tryz.prog 57 [.agg (cellC (nn q) (pp q))] [] (bv true) []) (hD : ∀ q, q < 64 → Callable Tryz.prog 29 ∧ Run Tryz.prog 29 [iv 6, .agg (cellC (nn q) (pp q))] [] (bv true) []) : Callable Tryz.prog 12 ∧ Run Tryz.prog 12 [.agg (songV 6 false), iv 0] (blankH 128 (CL nn pp)) (.tup [.agg (clockV 0 0 0), iv 0]) (blankH 128 (CL nn pp)) :=
  run_of_vN X1_sound (cOr_sound (cOne_sound (pats_6 hC hD)) (cOne_sound quirk_6)) (F := fun _ _ => false) (n := 12) (ds := [])
    (rec := [[V.agg (songC 6 false 0 ++ q6)] = [V.agg (songC 6 false 0 ++ q6)] ∧ blankH 128 (CL nn pp) = blankH 128 (CL nn pp), [iv 6] = [iv 6] ∧ ([] : H) = []]) (by kernel_rfl) ⟨⟨rfl, rfl⟩, ⟨rfl, rfl⟩, trivial⟩
end Go.Ab
