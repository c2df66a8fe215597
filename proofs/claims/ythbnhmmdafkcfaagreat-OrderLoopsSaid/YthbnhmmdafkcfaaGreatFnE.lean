/- What single functions of the program and of the reference answer, for the inputs that OrderLoops hands them. -/
import Derived.Test.YthbnhmmdafkcfaaGreatFnD
import Derived.Test.YthbnhmmdafkcfaaGreatEff1
import Derived.Test.YthbnhmmdafkcfaaGreatEff2
import Derived.Test.YthbnhmmdafkcfaaGreatEff3
import Derived.Test.YthbnhmmdafkcfaaGreatEff4
import Derived.Test.YthbnhmmdafkcfaaGreatEff5
import Derived.Test.YthbnhmmdafkcfaaGreatEff6
import Derived.Test.YthbnhmmdafkcfaaGreatEff7
import Derived.Test.YthbnhmmdafkcfaaGreatEff8
import Derived.Test.YthbnhmmdafkcfaaGreatEngH
set_option linter.unusedVariables false
set_option linter.unusedSimpArgs false
namespace Go.Ab
open Go.Proofs
set_option maxRecDepth 100000

/-! ### orchestrionlaw09.Effect -/
theorem b5_eq : b5 = .seq (sq1 b5) (.seq A5 (sq2 (sq2 b5))) := by kernel_rfl
theorem A5_eq : A5 = .seq (sq1 A5) (.block 0 (.loop X50)) := by kernel_rfl
theorem X50_eq : X50 = .seq (sq1 X50) (.seq (.block 1 Y50) (sq2 (sq2 X50))) := by kernel_rfl
theorem Y50_eq : Y50 = .seq (sq1 Y50) (.block 2 (.loop X51)) := by kernel_rfl
def FO : FuncId → Tmp → Bool := fun K t => K == 5 && [13, 15].contains t
def SO (d x : Int) (n : Nat) : St := ⟨[iv d, .dead, .dead, .ptr 0 0 0, .ptr 1 0 0, bv false, iv ((n : Nat) : Int), .dead] ++ List.replicate 39 .dead, [.cells 38 [[iv 34, iv x, iv 0]] true, .cells 34 [List.replicate 6 (iv 0)] true]⟩
def ksO : List Nat := [1, 2, 7] ++ (List.range 39).map (· + 8)

theorem addn_eq {n : Nat} (hn : n ≤ 36) : IntKind.i64.wrap ((n : Int) + 1) = ((n + 1 : Nat) : Int) := by
  unfold IntKind.wrap
  simp [IntKind.bits, IntKind.signed]
  omega

section
variable {w0 : World} {Pr0 : Nat → Prop} {β0 : Bt}

/-- The start of a letter: no end yet. -/
theorem o_head {d x : Int} {n : Nat} (hn : n ≤ 36) (hβ : β0.length ≤ 0) {a : Act} {w : World} {Q : Exit → Act → World → Prop} (hr : Rel Tryz.prog w0 Pr0 β0 (SO d x n) a w) (hq : ∀ a' w', Rel Tryz.prog w0 Pr0 β0 (SO d x n) a' w' → Q .normal a' w') : (sq1 X50).wp Tryz.prog Q a w :=
  evD_coarse (ex := .normal) follows_mixed XR_sound (n := 40) (k := 60) (F := FO) (F0 := FO 5) (ds := [vb true]) (rec := [(vb (decide ((n : Int) ≤ 36)), vb true)]) (m := 0) (ks := ksO) (p := fun _ _ => true) (by kernel_rfl) ⟨vb_eq (by simp; omega), trivial⟩ hβ hr hq

theorem o_round {d x : Int} {n : Nat} (hn : n ≤ 36) (h : ∀ q, q < 255 → RoundOk d (n : Int) x q) (hβ : β0.length ≤ 0) {a : Act} {w : World} {Q : Exit → Act → World → Prop} (hr : Rel Tryz.prog w0 Pr0 β0 (SO d x n) a w) : X50.wp Tryz.prog (Exit.then (fun a' w' => Rel Tryz.prog w0 Pr0 β0 (SO d x (n + 1)) a' w') Q) a w := by
  rw [X50_eq, Y50_eq]
  refine wp_seq (o_head hn hβ hr fun a w hr => wp_seq (wp_block (wp_seq ?_)))
  refine evC_coarse follows_mixed (callE_sound XR_sound) (n := 0) (ex := .normal) (m := 0) (ks := ksI) (p := fun _ _ => true) (s' := SI d n x 0) (by kernel_rfl) hβ hr fun a w hr => ?_
  refine wp_block (loop_up (S := SI d n x) (N := 255) (q0 := 0) (by omega) hr (fun q _ hq a w hr => h q hq hβ a w hr) fun a w hr => ?_)
  refine evC_coarse follows_mixed (callE_sound XR_sound) (n := 0) (ex := .exit 2) (m := 0) (ks := ksO) (p := fun _ _ => true) (s' := SO d x n) (by kernel_rfl) hβ hr fun a w hr => ?_
  refine evD_coarse (ex := .normal) follows_mixed XR_sound (n := 40) (k := 60) (F := FO) (F0 := FO 5) (ds := [vi ((n + 1 : Nat) : Int)]) (rec := [(vi (IntKind.i64.wrap ((n : Int) + 1)), vi ((n + 1 : Nat) : Int))]) (m := 0) (ks := ksO) (p := fun _ _ => true) (s' := SO d x (n + 1)) (by kernel_rfl) ⟨vi_eq (addn_eq hn), trivial⟩ hβ hr fun a w hr => hr

theorem o_hit {d x : Int} {n qm : Nat} (hn : n ≤ 36) (hqm : qm < 255) (h : ∀ q, q < qm → RoundOk d (n : Int) x q) (hh : RoundHit d (n : Int) x qm) (hβ : β0.length ≤ 0) {a : Act} {w : World} {Q : Exit → Act → World → Prop} (hr : Rel Tryz.prog w0 Pr0 β0 (SO d x n) a w) (hq : ∀ a w, Rel Tryz.prog w0 Pr0 β0 (SR n (pZ qm)) a w → Q .ret a w) : X50.wp Tryz.prog Q a w := by
  rw [X50_eq, Y50_eq]
  refine wp_seq (o_head hn hβ hr fun a w hr => wp_seq (wp_block (wp_seq ?_)))
  refine evC_coarse follows_mixed (callE_sound XR_sound) (n := 0) (ex := .normal) (m := 0) (ks := ksI) (p := fun _ _ => true) (s' := SI d n x 0) (by kernel_rfl) hβ hr fun a w hr => ?_
  refine wp_block (loop_up (S := SI d n x) (N := qm) (q0 := 0) (by omega) hr (fun q _ hq a w hr => h q hq hβ a w hr) fun a w hr => ?_)
  exact hh hβ a w hr hq

theorem o_end {d x : Int} (hβ : β0.length ≤ 0) {a : Act} {w : World} {Q : Exit → Act → World → Prop} (hr : Rel Tryz.prog w0 Pr0 β0 (SO d x 37) a w) (hq : ∀ a w, Rel Tryz.prog w0 Pr0 β0 (SO d x 37) a w → Q (.exit 0) a w) : X50.wp Tryz.prog Q a w := by
  rw [X50_eq]
  refine wp_seq ?_
  refine evC_coarse follows_mixed (callE_sound XR_sound) (n := 0) (ex := .exit 0) (m := 0) (ks := ksO) (p := fun _ _ => true) (s' := SO d x 37) (by kernel_rfl) hβ hr fun a w hr => hq a w hr
end

/-- The effect is found. -/
theorem effect_hit {d x : Int} {n0 qm : Nat} (hn : 1 ≤ n0 ∧ n0 ≤ 36) (hqm : qm < 255) (h : ∀ n, 1 ≤ n → n < n0 → ∀ q, q < 255 → RoundOk d ((n : Nat) : Int) x q) (h0 : ∀ q, q < qm → RoundOk d (n0 : Int) x q) (hh : RoundHit d (n0 : Int) x qm) :
    Callable Tryz.prog 5 ∧ Run Tryz.prog 5 [iv d, .agg [iv 34, iv x, iv 0]] [] (.tup [.agg [iv 0, iv 0, iv 0, iv 0, iv (n0 : Int), iv (pZ qm)], bv true]) [] := by
  refine fn_run Tryz.func5 (c := b5) (by kernel_rfl) (by kernel_rfl) fun w0 Pr0 β0 a w Q hβ hr hfin => ?_
  have hβ0 : β0.length ≤ 0 := by simp [hβ]
  rw [b5_eq, A5_eq]
  have hr : Rel Tryz.prog w0 Pr0 β0 ⟨[iv d, .agg [iv 34, iv x, iv 0]] ++ List.replicate 45 uv, []⟩ a w := hr
  refine wp_seq (evC_coarse follows_mixed (callE_sound XR_sound) (n := 0) (ex := .normal) (m := 0) (ks := [1, 2]) (p := fun _ _ => true) (s' := ⟨[iv d, .dead, .dead, .ptr 0 0 0, .ptr 1 0 0, bv false] ++ List.replicate 41 uv, (SO d x 1).h⟩) (by kernel_rfl) hβ0 hr fun a w hr => ?_)
  refine wp_seq (wp_seq (evC_coarse follows_mixed (callE_sound XR_sound) (n := 0) (ex := .normal) (m := 0) (ks := ksO) (p := fun _ _ => true) (s' := SO d x 1) (by kernel_rfl) hβ0 hr fun a w hr => ?_))
  refine wp_block (loop_up (S := SO d x) (N := n0) (q0 := 1) hn.1 hr (fun n h1 h2 a w hr => o_round (by omega) (h n h1 h2) hβ0 hr) fun a w hr => ?_)
  refine o_hit hn.2 hqm h0 hh hβ0 hr fun a w hr => ?_
  exact hfin .ret _ a w (by simp) (by kernel_rfl) hr

/-- The effect is not there. -/
theorem effect_none {d x : Int} (h : ∀ n, 1 ≤ n → n < 37 → ∀ q, q < 255 → RoundOk d ((n : Nat) : Int) x q) :
    Callable Tryz.prog 5 ∧ Run Tryz.prog 5 [iv d, .agg [iv 34, iv x, iv 0]] [] (.tup [.agg (List.replicate 6 (iv 0)), bv false]) [] := by
  refine fn_run Tryz.func5 (c := b5) (by kernel_rfl) (by kernel_rfl) fun w0 Pr0 β0 a w Q hβ hr hfin => ?_
  have hβ0 : β0.length ≤ 0 := by simp [hβ]
  rw [b5_eq, A5_eq]
  have hr : Rel Tryz.prog w0 Pr0 β0 ⟨[iv d, .agg [iv 34, iv x, iv 0]] ++ List.replicate 45 uv, []⟩ a w := hr
  refine wp_seq (evC_coarse follows_mixed (callE_sound XR_sound) (n := 0) (ex := .normal) (m := 0) (ks := [1, 2]) (p := fun _ _ => true) (s' := ⟨[iv d, .dead, .dead, .ptr 0 0 0, .ptr 1 0 0, bv false] ++ List.replicate 41 uv, (SO d x 1).h⟩) (by kernel_rfl) hβ0 hr fun a w hr => ?_)
  refine wp_seq (wp_seq (evC_coarse follows_mixed (callE_sound XR_sound) (n := 0) (ex := .normal) (m := 0) (ks := ksO) (p := fun _ _ => true) (s' := SO d x 1) (by kernel_rfl) hβ0 hr fun a w hr => ?_))
  refine wp_block (loop_up (S := SO d x) (N := 37) (q0 := 1) (by omega) hr (fun n h1 h2 a w hr => o_round (by omega) (h n h1 h2) hβ0 hr) fun a w hr => ?_)
  refine o_end hβ0 hr fun a w hr => ?_
  refine evC_wp follows_mixed (callE_sound XR_sound) 0 _ _ .ret ((evC Tryz.prog XR (iter 0) (sq2 (sq2 b5)) (SO d x 37)).getD (.ret, ⟨[], []⟩)).2 a w _ (by kernel_rfl) hr fun a w hr => ?_
  exact hfin .ret _ a w (by simp) (by kernel_rfl) hr

theorem effect_1 {x : Nat} (hx : x ≤ 15) : Callable Tryz.prog 5 ∧ Run Tryz.prog 5 [iv 1, .agg [iv 34, iv (x : Int), iv 0]] [] (.tup [.agg [iv 0, iv 0, iv 0, iv 0, iv 15, iv ((96 + x : Nat) : Int)], bv true]) [] := by
  have := effect_hit (d := 1) (x := (x : Int)) (n0 := 15) (qm := 95 + x) (by omega) (by omega) (fun n h1 h2 q hq => by
    have hc : n = 1 ∨ n = 2 ∨ n = 3 ∨ n = 4 ∨ n = 5 ∨ n = 6 ∨ n = 7 ∨ n = 8 ∨ n = 9 ∨ n = 10 ∨ n = 11 ∨ n = 12 ∨ n = 13 ∨ n = 14 := by omega
    rcases hc with rfl | rfl | rfl | rfl | rfl | rfl | rfl | rfl | rfl | rfl | rfl | rfl | rfl | rfl
    · exact @st_1_1 (x : Int) q hq
    · exact @st_1_2 (x : Int) q hq
    · exact @st_1_3 (x : Int) q hq
    · exact @st_1_4 (x : Int) q hq
    · exact @st_1_5 (x : Int) q hq
    · exact @st_1_6 (x : Int) q hq
    · exact @st_1_7 (x : Int) q hq
    · exact @st_1_8 (x : Int) q hq
    · exact @st_1_9 (x : Int) q hq
    · exact @st_1_10 (x : Int) q hq
    · exact @st_1_11 (x : Int) q hq
    · exact @st_1_12 (x : Int) q hq
    · exact @st_1_13 (x : Int) q hq
    · exact @st_1_14 (x : Int) q hq) (fun q hq => @st_1_15 x hx q (by omega)) (@hit_1_15 x hx (95 + x) (by omega))
  rw [show pZ (95 + x) = ((96 + x : Nat) : Int) by unfold pZ; congr 1; omega] at this
  exact this

theorem effect_2 {x : Nat} (hx : x ≤ 15) : Callable Tryz.prog 5 ∧ Run Tryz.prog 5 [iv 2, .agg [iv 34, iv (x : Int), iv 0]] [] (.tup [.agg [iv 0, iv 0, iv 0, iv 0, iv 29, iv ((176 + x : Nat) : Int)], bv true]) [] := by
  have := effect_hit (d := 2) (x := (x : Int)) (n0 := 29) (qm := 175 + x) (by omega) (by omega) (fun n h1 h2 q hq => by
    have hc : n = 1 ∨ n = 2 ∨ n = 3 ∨ n = 4 ∨ n = 5 ∨ n = 6 ∨ n = 7 ∨ n = 8 ∨ n = 9 ∨ n = 10 ∨ n = 11 ∨ n = 12 ∨ n = 13 ∨ n = 14 ∨ n = 15 ∨ n = 16 ∨ n = 17 ∨ n = 18 ∨ n = 19 ∨ n = 20 ∨ n = 21 ∨ n = 22 ∨ n = 23 ∨ n = 24 ∨ n = 25 ∨ n = 26 ∨ n = 27 ∨ n = 28 := by omega
    rcases hc with rfl | rfl | rfl | rfl | rfl | rfl | rfl | rfl | rfl | rfl | rfl | rfl | rfl | rfl | rfl | rfl | rfl | rfl | rfl | rfl | rfl | rfl | rfl | rfl | rfl | rfl | rfl | rfl
    · exact @st_2_1 (x : Int) q hq
    · exact @st_2_2 (x : Int) q hq
    · exact @st_2_3 (x : Int) q hq
    · exact @st_2_4 (x : Int) q hq
    · exact @st_2_5 (x : Int) q hq
    · exact @st_2_6 (x : Int) q hq
    · exact @st_2_7 (x : Int) q hq
    · exact @st_2_8 (x : Int) q hq
    · exact @st_2_9 (x : Int) q hq
    · exact @st_2_10 (x : Int) q hq
    · exact @st_2_11 (x : Int) q hq
    · exact @st_2_12 (x : Int) q hq
    · exact @st_2_13 (x : Int) q hq
    · exact @st_2_14 (x : Int) q hq
    · exact @st_2_15 (x : Int) q hq
    · exact @st_2_16 (x : Int) q hq
    · exact @st_2_17 (x : Int) q hq
    · exact @st_2_18 (x : Int) q hq
    · exact @st_2_19 (x : Int) q hq
    · exact @st_2_20 (x : Int) q hq
    · exact @st_2_21 (x : Int) q hq
    · exact @st_2_22 (x : Int) q hq
    · exact @st_2_23 (x : Int) q hq
    · exact @st_2_24 (x : Int) q hq
    · exact @st_2_25 (x : Int) q hq
    · exact @st_2_26 (x : Int) q hq
    · exact @st_2_27 (x : Int) q hq
    · exact @st_2_28 (x : Int) q hq) (fun q hq => @st_2_29 x hx q (by omega)) (@hit_2_29 x hx (175 + x) (by omega))
  rw [show pZ (175 + x) = ((176 + x : Nat) : Int) by unfold pZ; congr 1; omega] at this
  exact this

theorem effect_3 {x : Nat} (hx : x ≤ 15) : Callable Tryz.prog 5 ∧ Run Tryz.prog 5 [iv 3, .agg [iv 34, iv (x : Int), iv 0]] [] (.tup [.agg [iv 0, iv 0, iv 0, iv 0, iv 15, iv ((96 + x : Nat) : Int)], bv true]) [] := by
  have := effect_hit (d := 3) (x := (x : Int)) (n0 := 15) (qm := 95 + x) (by omega) (by omega) (fun n h1 h2 q hq => by
    have hc : n = 1 ∨ n = 2 ∨ n = 3 ∨ n = 4 ∨ n = 5 ∨ n = 6 ∨ n = 7 ∨ n = 8 ∨ n = 9 ∨ n = 10 ∨ n = 11 ∨ n = 12 ∨ n = 13 ∨ n = 14 := by omega
    rcases hc with rfl | rfl | rfl | rfl | rfl | rfl | rfl | rfl | rfl | rfl | rfl | rfl | rfl | rfl
    · exact @st_3_1 (x : Int) q hq
    · exact @st_3_2 (x : Int) q hq
    · exact @st_3_3 (x : Int) q hq
    · exact @st_3_4 (x : Int) q hq
    · exact @st_3_5 (x : Int) q hq
    · exact @st_3_6 (x : Int) q hq
    · exact @st_3_7 (x : Int) q hq
    · exact @st_3_8 (x : Int) q hq
    · exact @st_3_9 (x : Int) q hq
    · exact @st_3_10 (x : Int) q hq
    · exact @st_3_11 (x : Int) q hq
    · exact @st_3_12 (x : Int) q hq
    · exact @st_3_13 (x : Int) q hq
    · exact @st_3_14 (x : Int) q hq) (fun q hq => @st_3_15 x hx q (by omega)) (@hit_3_15 x hx (95 + x) (by omega))
  rw [show pZ (95 + x) = ((96 + x : Nat) : Int) by unfold pZ; congr 1; omega] at this
  exact this

theorem effect_4 {x : Nat} (hx : x ≤ 15) : Callable Tryz.prog 5 ∧ Run Tryz.prog 5 [iv 4, .agg [iv 34, iv (x : Int), iv 0]] [] (.tup [.agg [iv 0, iv 0, iv 0, iv 0, iv 29, iv ((176 + x : Nat) : Int)], bv true]) [] := by
  have := effect_hit (d := 4) (x := (x : Int)) (n0 := 29) (qm := 175 + x) (by omega) (by omega) (fun n h1 h2 q hq => by
    have hc : n = 1 ∨ n = 2 ∨ n = 3 ∨ n = 4 ∨ n = 5 ∨ n = 6 ∨ n = 7 ∨ n = 8 ∨ n = 9 ∨ n = 10 ∨ n = 11 ∨ n = 12 ∨ n = 13 ∨ n = 14 ∨ n = 15 ∨ n = 16 ∨ n = 17 ∨ n = 18 ∨ n = 19 ∨ n = 20 ∨ n = 21 ∨ n = 22 ∨ n = 23 ∨ n = 24 ∨ n = 25 ∨ n = 26 ∨ n = 27 ∨ n = 28 := by omega
    rcases hc with rfl | rfl | rfl | rfl | rfl | rfl | rfl | rfl | rfl | rfl | rfl | rfl | rfl | rfl | rfl | rfl | rfl | rfl | rfl | rfl | rfl | rfl | rfl | rfl | rfl | rfl | rfl | rfl
    · exact @st_4_1 (x : Int) q hq
    · exact @st_4_2 (x : Int) q hq
    · exact @st_4_3 (x : Int) q hq
    · exact @st_4_4 (x : Int) q hq
    · exact @st_4_5 (x : Int) q hq
    · exact @st_4_6 (x : Int) q hq
    · exact @st_4_7 (x : Int) q hq
    · exact @st_4_8 (x : Int) q hq
    · exact @st_4_9 (x : Int) q hq
    · exact @st_4_10 (x : Int) q hq
    · exact @st_4_11 (x : Int) q hq
    · exact @st_4_12 (x : Int) q hq
    · exact @st_4_13 (x : Int) q hq
    · exact @st_4_14 (x : Int) q hq
    · exact @st_4_15 (x : Int) q hq
    · exact @st_4_16 (x : Int) q hq
    · exact @st_4_17 (x : Int) q hq
    · exact @st_4_18 (x : Int) q hq
    · exact @st_4_19 (x : Int) q hq
    · exact @st_4_20 (x : Int) q hq
    · exact @st_4_21 (x : Int) q hq
    · exact @st_4_22 (x : Int) q hq
    · exact @st_4_23 (x : Int) q hq
    · exact @st_4_24 (x : Int) q hq
    · exact @st_4_25 (x : Int) q hq
    · exact @st_4_26 (x : Int) q hq
    · exact @st_4_27 (x : Int) q hq
    · exact @st_4_28 (x : Int) q hq) (fun q hq => @st_4_29 x hx q (by omega)) (@hit_4_29 x hx (175 + x) (by omega))
  rw [show pZ (175 + x) = ((176 + x : Nat) : Int) by unfold pZ; congr 1; omega] at this
  exact this

theorem effect_6 {x : Nat} (hx : x ≤ 15) : Callable Tryz.prog 5 ∧ Run Tryz.prog 5 [iv 6, .agg [iv 34, iv (x : Int), iv 0]] [] (.tup [.agg [iv 0, iv 0, iv 0, iv 0, iv 15, iv ((96 + x : Nat) : Int)], bv true]) [] := by
  have := effect_hit (d := 6) (x := (x : Int)) (n0 := 15) (qm := 95 + x) (by omega) (by omega) (fun n h1 h2 q hq => by
    have hc : n = 1 ∨ n = 2 ∨ n = 3 ∨ n = 4 ∨ n = 5 ∨ n = 6 ∨ n = 7 ∨ n = 8 ∨ n = 9 ∨ n = 10 ∨ n = 11 ∨ n = 12 ∨ n = 13 ∨ n = 14 := by omega
    rcases hc with rfl | rfl | rfl | rfl | rfl | rfl | rfl | rfl | rfl | rfl | rfl | rfl | rfl | rfl
    · exact @st_6_1 (x : Int) q hq
    · exact @st_6_2 (x : Int) q hq
    · exact @st_6_3 (x : Int) q hq
    · exact @st_6_4 (x : Int) q hq
    · exact @st_6_5 (x : Int) q hq
    · exact @st_6_6 (x : Int) q hq
    · exact @st_6_7 (x : Int) q hq
    · exact @st_6_8 (x : Int) q hq
    · exact @st_6_9 (x : Int) q hq
    · exact @st_6_10 (x : Int) q hq
    · exact @st_6_11 (x : Int) q hq
    · exact @st_6_12 (x : Int) q hq
    · exact @st_6_13 (x : Int) q hq
    · exact @st_6_14 (x : Int) q hq) (fun q hq => @st_6_15 x hx q (by omega)) (@hit_6_15 x hx (95 + x) (by omega))
  rw [show pZ (95 + x) = ((96 + x : Nat) : Int) by unfold pZ; congr 1; omega] at this
  exact this

theorem effect_5 {x : Int} : Callable Tryz.prog 5 ∧ Run Tryz.prog 5 [iv 5, .agg [iv 34, iv x, iv 0]] [] (.tup [.agg (List.replicate 6 (iv 0)), bv false]) [] := by
  refine effect_none fun n h1 h2 q hq => ?_
  have hc : n = 1 ∨ n = 2 ∨ n = 3 ∨ n = 4 ∨ n = 5 ∨ n = 6 ∨ n = 7 ∨ n = 8 ∨ n = 9 ∨ n = 10 ∨ n = 11 ∨ n = 12 ∨ n = 13 ∨ n = 14 ∨ n = 15 ∨ n = 16 ∨ n = 17 ∨ n = 18 ∨ n = 19 ∨ n = 20 ∨ n = 21 ∨ n = 22 ∨ n = 23 ∨ n = 24 ∨ n = 25 ∨ n = 26 ∨ n = 27 ∨ n = 28 ∨ n = 29 ∨ n = 30 ∨ n = 31 ∨ n = 32 ∨ n = 33 ∨ n = 34 ∨ n = 35 ∨ n = 36 := by omega
  rcases hc with rfl | rfl | rfl | rfl | rfl | rfl | rfl | rfl | rfl | rfl | rfl | rfl | rfl | rfl | rfl | rfl | rfl | rfl | rfl | rfl | rfl | rfl | rfl | rfl | rfl | rfl | rfl | rfl | rfl | rfl | rfl | rfl | rfl | rfl | rfl | rfl
  · exact @st_5_1 x q hq
  · exact @st_5_2 x q hq
  · exact @st_5_3 x q hq
  · exact @st_5_4 x q hq
  · exact @st_5_5 x q hq
  · exact @st_5_6 x q hq
  · exact @st_5_7 x q hq
  · exact @st_5_8 x q hq
  · exact @st_5_9 x q hq
  · exact @st_5_10 x q hq
  · exact @st_5_11 x q hq
  · exact @st_5_12 x q hq
  · exact @st_5_13 x q hq
  · exact @st_5_14 x q hq
  · exact @st_5_15 x q hq
  · exact @st_5_16 x q hq
  · exact @st_5_17 x q hq
  · exact @st_5_18 x q hq
  · exact @st_5_19 x q hq
  · exact @st_5_20 x q hq
  · exact @st_5_21 x q hq
  · exact @st_5_22 x q hq
  · exact @st_5_23 x q hq
  · exact @st_5_24 x q hq
  · exact @st_5_25 x q hq
  · exact @st_5_26 x q hq
  · exact @st_5_27 x q hq
  · exact @st_5_28 x q hq
  · exact @st_5_29 x q hq
  · exact @st_5_30 x q hq
  · exact @st_5_31 x q hq
  · exact @st_5_32 x q hq
  · exact @st_5_33 x q hq
  · exact @st_5_34 x q hq
  · exact @st_5_35 x q hq
  · exact @st_5_36 x q hq

end Go.Ab

set_option linter.unusedVariables false
set_option linter.unusedSimpArgs false
namespace Go.Ab
open Go.Proofs
set_option maxRecDepth 100000

/-! ### orchestrionlaw09.Effect, where there is no such dialect -/
def FZ : FuncId → Tmp → Bool := fun K t => match K with
  | 7 => [6, 9, 12, 15, 18, 21].contains t
  | 5 => [17, 19].contains t
  | _ => false

theorem eqf {d k : Int} (h : d ≠ k) : (d == k) = false := by simp [h]

theorem st_other {d n x : Int} {q : Nat} (h1 : d ≠ 1) (h2 : d ≠ 2) (h3 : d ≠ 3) (h4 : d ≠ 4) (h5 : d ≠ 5) (h6 : d ≠ 6) (hq5 : q < 255) : RoundOk d n x q :=
  fun hβ a w hr => evD_coarse (ex := .normal) follows_mixed X1_sound (n := 40) (k := 60) (F := FZ) (F0 := FZ 5) (m := 0) (ks := ksI) (p := fun _ _ => true) (s' := SI d n x (q + 1)) (ds := [vb true, vb false, vb false, vb false, vb false, vb false, vb false, vi (pZ (q + 1))])
    (rec := [(vi (IntKind.i64.wrap (pZ q + 1)), vi (pZ (q + 1))), (vb (d == 6), vb false), (vb (d == 5), vb false), (vb (d == 4), vb false), (vb (d == 3), vb false), (vb (d == 2), vb false), (vb (d == 1), vb false), (vb (decide (pZ q ≤ 255)), vb true)]) (by kernel_rfl)
    ⟨vi_eq (add_eq hq5), vb_eq (eqf h6), vb_eq (eqf h5), vb_eq (eqf h4), vb_eq (eqf h3), vb_eq (eqf h2), vb_eq (eqf h1), vb_eq (le_eq hq5), trivial⟩ hβ hr fun a' w' hr' => hr'

theorem effect_other {d x : Int} (h1 : d ≠ 1) (h2 : d ≠ 2) (h3 : d ≠ 3) (h4 : d ≠ 4) (h5 : d ≠ 5) (h6 : d ≠ 6) : Callable Tryz.prog 5 ∧ Run Tryz.prog 5 [iv d, .agg [iv 34, iv x, iv 0]] [] (.tup [.agg (List.replicate 6 (iv 0)), bv false]) [] :=
  effect_none fun n _ _ q hq => st_other h1 h2 h3 h4 h5 h6 hq

end Go.Ab
