/- What order.Walk answers on the song of the law. -/
import Derived.Test.YthbnhmmdafkcfaaGreatWalkA
import Derived.Test.YthbnhmmdafkcfaaGreatEngH
set_option linter.unusedVariables false
set_option linter.unusedSimpArgs false
namespace Go.Ab
open Go.Proofs
set_option maxRecDepth 100000

/-! ### order.Walk: the way to the loop -/
noncomputable def c6 : Code := Tryz.f6.body.getD .skip
noncomputable def p1 : Code := sq1 (sq2 c6)
noncomputable def p2 : Code := sq1 (sq2 (sq2 c6))
noncomputable def p3 : Code := sq1 (sq2 (sq2 (sq2 c6)))
noncomputable def p4 : Code := sq1 (sq2 (sq2 (sq2 (sq2 c6))))
noncomputable def p5 : Code := sq1 (sq2 (sq2 (sq2 (sq2 (sq2 c6)))))
noncomputable def p6 : Code := sq1 (sq2 (sq2 (sq2 (sq2 (sq2 (sq2 c6))))))
noncomputable def p7 : Code := sq1 (sq2 (sq2 (sq2 (sq2 (sq2 (sq2 (sq2 c6)))))))
noncomputable def p8 : Code := sq2 (sq2 (sq2 (sq2 (sq2 (sq2 (sq2 (sq2 c6)))))))
noncomputable def x6 : Code := inn (inn (sq1 p8))
noncomputable def y6 : Code := inn (sq2 x6)
theorem c6_eq : c6 = .seq (sq1 c6) (.seq p1 (.seq p2 (.seq p3 (.seq p4 (.seq p5 (.seq p6 (.seq p7 p8))))))) := by kernel_rfl
theorem p8_eq : p8 = .seq (.block 1 (.loop x6)) (sq2 p8) := by kernel_rfl
theorem x6_eq : x6 = .seq (sq1 x6) (.block 2 (.seq (sq1 y6) (.seq (sq1 (sq2 y6)) (.seq (sq1 (sq2 (sq2 y6))) (sq2 (sq2 (sq2 y6))))))) := by kernel_rfl

def mems (k : Nat) (v : Int) : List V := (List.replicate 26 (iv 0)).set k (iv v)
def shT (h : H) : H := h.map (renB (· + 10))
/-- The blocks of Walk. -/
def hdH (d : Int) (lin : Bool) (pan : Int) (qs : List V) (k : Nat) (mv r lr lc : Int) (op : V) (nn pp : Nat → Int) (tb : H) : H := blankH pan (CL nn pp) ++ ([.cells 29 [songC d lin 0] true, .cells 63 [clockV r lr lc] true, .cells 49 [qs] true, .cells 58 [mems k mv] true, .cells 55 [[op]] true, .cells 70 [[iv d, .mp 10]] true] ++ tb)
def T1 (N : Int) : List V := [.dead, .dead, iv N, .ptr 4 0 0, .dead, .dead, .dead, .dead, .ptr 5 0 0, .dead, .ptr 6 0 0, .dead, .row 7 0 1 1, .row 8 0 1 1, .ptr 9 0 0]
def T2 (v : V) : List V := [.dead, .dead, v] ++ List.replicate 85 .dead
def F6 : FuncId → Tmp → Bool := fun K t => K == 6 && [35, 38, 61].contains t
def ks6 : List Nat := (List.range 88).map (· + 16)
def d6 (l : List V) : List V := l ++ List.replicate (104 - l.length) .dead

section
variable {w0 : World} {Pr0 : Nat → Prop} {β0 : Bt}
theorem wi_1 {nn pp : Nat → Int} {n : Nat} (hn : n ≤ 2000) (hS : Callable Tryz.prog 12 ∧ Run Tryz.prog 12 [.agg (songV 1 false), iv 0] (blankH 0 (CL nn pp)) (.tup [.agg (clockV 0 0 0), iv 0]) (blankH 0 (CL nn pp))) (hβ : β0.length ≤ 4) {a : Act} {w : World} {Q : Exit → Act → World → Prop}
    (hr : Rel Tryz.prog w0 Pr0 β0 ⟨[.agg (songV 1 false), iv 0, iv ((n + 1 : Nat) : Int)] ++ List.replicate 101 uv, blankH 0 (CL nn pp)⟩ a w)
    (hq : ∀ a' w', Rel Tryz.prog w0 Pr0 β0 ⟨T1 ((n + 1 : Nat) : Int) ++ nilS :: T2 .dead, hdH 1 false 0 q1 1 0 0 0 0 .dead nn pp (shT opH1) ++ [.gone]⟩ a' w' → p8.wp Tryz.prog Q a' w') : c6.wp Tryz.prog Q a w := by
  rw [c6_eq]
  refine wp_seq (evC_coarse follows_mixed (callE_sound X1_sound) (n := 0) (ex := .normal) (m := 4) (ks := [0] ++ (List.range 100).map (· + 4)) (p := fun _ _ => true) (s' := ⟨d6 [.dead, iv 0, iv ((n + 1 : Nat) : Int), .ptr 4 0 0], blankH 0 (CL nn pp) ++ [.cells 29 [songC 1 false 0] true]⟩) (by kernel_rfl) hβ hr fun a w hr => wp_seq ?_)
  refine evV_coarse follows_mixed X1_sound (cOne_sound hS) (n := 2) (k := 2) (F := F6) (F0 := F6 6) (ds := []) (rec := [[V.agg (songV 1 false), iv 0] = [V.agg (songV 1 false), iv 0] ∧ blankH 0 (CL nn pp) = blankH 0 (CL nn pp)]) (ex := .normal) (m := 4) (ks := [1, 4, 5, 6, 7] ++ (List.range 94).map (· + 10)) (p := fun _ _ => true)
    (s' := ⟨d6 [.dead, .dead, iv ((n + 1 : Nat) : Int), .ptr 4 0 0, .dead, .dead, .dead, .dead, .ptr 5 0 0, iv 0], blankH 0 (CL nn pp) ++ [.cells 29 [songC 1 false 0] true, .cells 63 [clockV 0 0 0] true]⟩) (by kernel_rfl) ⟨⟨rfl, rfl⟩, trivial⟩ hβ hr fun a w hr => wp_seq ?_
  refine evV_coarse follows_mixed X1_sound cNone_sound (n := 2) (k := 2) (F := F6) (F0 := F6 6) (ds := [(bv false, []), (bv false, [])]) (rec := [bv (decide (((n + 1 : Nat) : Int) > 4000)) = bv false, bv (decide (((n + 1 : Nat) : Int) < 0)) = bv false]) (ex := .normal) (m := 4) (ks := [4, 5, 6, 7] ++ (List.range 95).map (· + 9)) (p := fun _ _ => true)
    (s' := ⟨d6 [.dead, .dead, iv ((n + 1 : Nat) : Int), .ptr 4 0 0, .dead, .dead, .dead, .dead, .ptr 5 0 0], blankH 0 (CL nn pp) ++ [.cells 29 [songC 1 false 0] true, .cells 63 [clockV 0 0 0] true]⟩) (by kernel_rfl) ⟨bv_eq (decide_eq_false (by omega)), bv_eq (decide_eq_false (by omega)), trivial⟩ hβ hr fun a w hr => wp_seq ?_
  refine evV_coarse follows_mixed X1_sound (cOne_sound quirk_1) (n := 2) (k := 2) (F := F6) (F0 := F6 6) (ds := []) (rec := [[iv 1] = [iv 1] ∧ ([] : H) = []]) (ex := .normal) (m := 4) (ks := [4, 5, 6, 7, 9] ++ (List.range 93).map (· + 11)) (p := fun _ _ => true)
    (s' := ⟨d6 [.dead, .dead, iv ((n + 1 : Nat) : Int), .ptr 4 0 0, .dead, .dead, .dead, .dead, .ptr 5 0 0, .dead, .ptr 6 0 0], blankH 0 (CL nn pp) ++ [.cells 29 [songC 1 false 0] true, .cells 63 [clockV 0 0 0] true, .cells 49 [q1] true]⟩) (by kernel_rfl) ⟨⟨rfl, rfl⟩, trivial⟩ hβ hr fun a w hr => wp_seq ?_
  refine evC_coarse follows_mixed (callE_sound X1_sound) (n := 0) (ex := .normal) (m := 4) (ks := [4, 5, 6, 7, 9, 11] ++ (List.range 91).map (· + 13)) (p := fun _ _ => true)
    (s' := ⟨d6 [.dead, .dead, iv ((n + 1 : Nat) : Int), .ptr 4 0 0, .dead, .dead, .dead, .dead, .ptr 5 0 0, .dead, .ptr 6 0 0, .dead, .row 7 0 1 1], blankH 0 (CL nn pp) ++ [.cells 29 [songC 1 false 0] true, .cells 63 [clockV 0 0 0] true, .cells 49 [q1] true, .cells 58 [mems 1 0] true]⟩) (by kernel_rfl) hβ hr fun a w hr => wp_seq ?_
  refine evC_coarse follows_mixed (callE_sound X1_sound) (n := 0) (ex := .normal) (m := 4) (ks := [4, 5, 6, 7, 9, 11] ++ (List.range 90).map (· + 14)) (p := fun _ _ => true)
    (s' := ⟨d6 [.dead, .dead, iv ((n + 1 : Nat) : Int), .ptr 4 0 0, .dead, .dead, .dead, .dead, .ptr 5 0 0, .dead, .ptr 6 0 0, .dead, .row 7 0 1 1, .row 8 0 1 1], blankH 0 (CL nn pp) ++ [.cells 29 [songC 1 false 0] true, .cells 63 [clockV 0 0 0] true, .cells 49 [q1] true, .cells 58 [mems 1 0] true, .cells 55 [[nilS]] true]⟩) (by kernel_rfl) hβ hr fun a w hr => wp_seq ?_
  refine evV_coarse follows_mixed X1_sound (cOne_sound open_1) (n := 2) (k := 2) (F := F6) (F0 := F6 6) (ds := []) (rec := [[iv 1] = [iv 1] ∧ ([] : H) = []]) (ex := .normal) (m := 4) (ks := [4, 5, 6, 7, 9, 11] ++ (List.range 89).map (· + 15)) (p := fun _ _ => true)
    (s' := ⟨d6 (T1 ((n + 1 : Nat) : Int)), hdH 1 false 0 q1 1 0 0 0 0 nilS nn pp (shT opH1)⟩) (by kernel_rfl) ⟨⟨rfl, rfl⟩, trivial⟩ hβ hr fun a w hr => wp_seq ?_
  refine evC_coarse follows_mixed (callE_sound X1_sound) (n := 0) (ex := .normal) (m := 4) (ks := []) (p := fun _ _ => true)
    (s' := ⟨T1 ((n + 1 : Nat) : Int) ++ nilS :: T2 .dead, hdH 1 false 0 q1 1 0 0 0 0 nilS nn pp (shT opH1)⟩) (by kernel_rfl) hβ hr fun a w hr => hq a w ?_
  exact (Rel.forget (i := 8) (t := 55) (es := [[nilS]]) (ex := true) rfl hr).addGone
theorem wi_2 {nn pp : Nat → Int} {n : Nat} (hn : n ≤ 2000) (hS : Callable Tryz.prog 12 ∧ Run Tryz.prog 12 [.agg (songV 2 false), iv 0] (blankH 128 (CL nn pp)) (.tup [.agg (clockV 0 0 0), iv 0]) (blankH 128 (CL nn pp))) (hβ : β0.length ≤ 4) {a : Act} {w : World} {Q : Exit → Act → World → Prop}
    (hr : Rel Tryz.prog w0 Pr0 β0 ⟨[.agg (songV 2 false), iv 0, iv ((n + 1 : Nat) : Int)] ++ List.replicate 101 uv, blankH 128 (CL nn pp)⟩ a w)
    (hq : ∀ a' w', Rel Tryz.prog w0 Pr0 β0 ⟨T1 ((n + 1 : Nat) : Int) ++ nilS :: T2 .dead, hdH 2 false 128 q2 1 0 0 0 0 .dead nn pp (shT opH2) ++ [.gone]⟩ a' w' → p8.wp Tryz.prog Q a' w') : c6.wp Tryz.prog Q a w := by
  rw [c6_eq]
  refine wp_seq (evC_coarse follows_mixed (callE_sound X1_sound) (n := 0) (ex := .normal) (m := 4) (ks := [0] ++ (List.range 100).map (· + 4)) (p := fun _ _ => true) (s' := ⟨d6 [.dead, iv 0, iv ((n + 1 : Nat) : Int), .ptr 4 0 0], blankH 128 (CL nn pp) ++ [.cells 29 [songC 2 false 0] true]⟩) (by kernel_rfl) hβ hr fun a w hr => wp_seq ?_)
  refine evV_coarse follows_mixed X1_sound (cOne_sound hS) (n := 2) (k := 2) (F := F6) (F0 := F6 6) (ds := []) (rec := [[V.agg (songV 2 false), iv 0] = [V.agg (songV 2 false), iv 0] ∧ blankH 128 (CL nn pp) = blankH 128 (CL nn pp)]) (ex := .normal) (m := 4) (ks := [1, 4, 5, 6, 7] ++ (List.range 94).map (· + 10)) (p := fun _ _ => true)
    (s' := ⟨d6 [.dead, .dead, iv ((n + 1 : Nat) : Int), .ptr 4 0 0, .dead, .dead, .dead, .dead, .ptr 5 0 0, iv 0], blankH 128 (CL nn pp) ++ [.cells 29 [songC 2 false 0] true, .cells 63 [clockV 0 0 0] true]⟩) (by kernel_rfl) ⟨⟨rfl, rfl⟩, trivial⟩ hβ hr fun a w hr => wp_seq ?_
  refine evV_coarse follows_mixed X1_sound cNone_sound (n := 2) (k := 2) (F := F6) (F0 := F6 6) (ds := [(bv false, []), (bv false, [])]) (rec := [bv (decide (((n + 1 : Nat) : Int) > 4000)) = bv false, bv (decide (((n + 1 : Nat) : Int) < 0)) = bv false]) (ex := .normal) (m := 4) (ks := [4, 5, 6, 7] ++ (List.range 95).map (· + 9)) (p := fun _ _ => true)
    (s' := ⟨d6 [.dead, .dead, iv ((n + 1 : Nat) : Int), .ptr 4 0 0, .dead, .dead, .dead, .dead, .ptr 5 0 0], blankH 128 (CL nn pp) ++ [.cells 29 [songC 2 false 0] true, .cells 63 [clockV 0 0 0] true]⟩) (by kernel_rfl) ⟨bv_eq (decide_eq_false (by omega)), bv_eq (decide_eq_false (by omega)), trivial⟩ hβ hr fun a w hr => wp_seq ?_
  refine evV_coarse follows_mixed X1_sound (cOne_sound quirk_2) (n := 2) (k := 2) (F := F6) (F0 := F6 6) (ds := []) (rec := [[iv 2] = [iv 2] ∧ ([] : H) = []]) (ex := .normal) (m := 4) (ks := [4, 5, 6, 7, 9] ++ (List.range 93).map (· + 11)) (p := fun _ _ => true)
    (s' := ⟨d6 [.dead, .dead, iv ((n + 1 : Nat) : Int), .ptr 4 0 0, .dead, .dead, .dead, .dead, .ptr 5 0 0, .dead, .ptr 6 0 0], blankH 128 (CL nn pp) ++ [.cells 29 [songC 2 false 0] true, .cells 63 [clockV 0 0 0] true, .cells 49 [q2] true]⟩) (by kernel_rfl) ⟨⟨rfl, rfl⟩, trivial⟩ hβ hr fun a w hr => wp_seq ?_
  refine evC_coarse follows_mixed (callE_sound X1_sound) (n := 0) (ex := .normal) (m := 4) (ks := [4, 5, 6, 7, 9, 11] ++ (List.range 91).map (· + 13)) (p := fun _ _ => true)
    (s' := ⟨d6 [.dead, .dead, iv ((n + 1 : Nat) : Int), .ptr 4 0 0, .dead, .dead, .dead, .dead, .ptr 5 0 0, .dead, .ptr 6 0 0, .dead, .row 7 0 1 1], blankH 128 (CL nn pp) ++ [.cells 29 [songC 2 false 0] true, .cells 63 [clockV 0 0 0] true, .cells 49 [q2] true, .cells 58 [mems 1 0] true]⟩) (by kernel_rfl) hβ hr fun a w hr => wp_seq ?_
  refine evC_coarse follows_mixed (callE_sound X1_sound) (n := 0) (ex := .normal) (m := 4) (ks := [4, 5, 6, 7, 9, 11] ++ (List.range 90).map (· + 14)) (p := fun _ _ => true)
    (s' := ⟨d6 [.dead, .dead, iv ((n + 1 : Nat) : Int), .ptr 4 0 0, .dead, .dead, .dead, .dead, .ptr 5 0 0, .dead, .ptr 6 0 0, .dead, .row 7 0 1 1, .row 8 0 1 1], blankH 128 (CL nn pp) ++ [.cells 29 [songC 2 false 0] true, .cells 63 [clockV 0 0 0] true, .cells 49 [q2] true, .cells 58 [mems 1 0] true, .cells 55 [[nilS]] true]⟩) (by kernel_rfl) hβ hr fun a w hr => wp_seq ?_
  refine evV_coarse follows_mixed X1_sound (cOne_sound open_2) (n := 2) (k := 2) (F := F6) (F0 := F6 6) (ds := []) (rec := [[iv 2] = [iv 2] ∧ ([] : H) = []]) (ex := .normal) (m := 4) (ks := [4, 5, 6, 7, 9, 11] ++ (List.range 89).map (· + 15)) (p := fun _ _ => true)
    (s' := ⟨d6 (T1 ((n + 1 : Nat) : Int)), hdH 2 false 128 q2 1 0 0 0 0 nilS nn pp (shT opH2)⟩) (by kernel_rfl) ⟨⟨rfl, rfl⟩, trivial⟩ hβ hr fun a w hr => wp_seq ?_
  refine evC_coarse follows_mixed (callE_sound X1_sound) (n := 0) (ex := .normal) (m := 4) (ks := []) (p := fun _ _ => true)
    (s' := ⟨T1 ((n + 1 : Nat) : Int) ++ nilS :: T2 .dead, hdH 2 false 128 q2 1 0 0 0 0 nilS nn pp (shT opH2)⟩) (by kernel_rfl) hβ hr fun a w hr => hq a w ?_
  exact (Rel.forget (i := 8) (t := 55) (es := [[nilS]]) (ex := true) rfl hr).addGone
theorem wi_3 {nn pp : Nat → Int} {n : Nat} (hn : n ≤ 2000) (hS : Callable Tryz.prog 12 ∧ Run Tryz.prog 12 [.agg (songV 3 true), iv 0] (blankH 128 (CL nn pp)) (.tup [.agg (clockV 0 0 0), iv 0]) (blankH 128 (CL nn pp))) (hβ : β0.length ≤ 4) {a : Act} {w : World} {Q : Exit → Act → World → Prop}
    (hr : Rel Tryz.prog w0 Pr0 β0 ⟨[.agg (songV 3 true), iv 0, iv ((n + 1 : Nat) : Int)] ++ List.replicate 101 uv, blankH 128 (CL nn pp)⟩ a w)
    (hq : ∀ a' w', Rel Tryz.prog w0 Pr0 β0 ⟨T1 ((n + 1 : Nat) : Int) ++ nilS :: T2 .dead, hdH 3 true 128 q3 1 0 0 0 0 .dead nn pp (shT opH3) ++ [.gone]⟩ a' w' → p8.wp Tryz.prog Q a' w') : c6.wp Tryz.prog Q a w := by
  rw [c6_eq]
  refine wp_seq (evC_coarse follows_mixed (callE_sound X1_sound) (n := 0) (ex := .normal) (m := 4) (ks := [0] ++ (List.range 100).map (· + 4)) (p := fun _ _ => true) (s' := ⟨d6 [.dead, iv 0, iv ((n + 1 : Nat) : Int), .ptr 4 0 0], blankH 128 (CL nn pp) ++ [.cells 29 [songC 3 true 0] true]⟩) (by kernel_rfl) hβ hr fun a w hr => wp_seq ?_)
  refine evV_coarse follows_mixed X1_sound (cOne_sound hS) (n := 2) (k := 2) (F := F6) (F0 := F6 6) (ds := []) (rec := [[V.agg (songV 3 true), iv 0] = [V.agg (songV 3 true), iv 0] ∧ blankH 128 (CL nn pp) = blankH 128 (CL nn pp)]) (ex := .normal) (m := 4) (ks := [1, 4, 5, 6, 7] ++ (List.range 94).map (· + 10)) (p := fun _ _ => true)
    (s' := ⟨d6 [.dead, .dead, iv ((n + 1 : Nat) : Int), .ptr 4 0 0, .dead, .dead, .dead, .dead, .ptr 5 0 0, iv 0], blankH 128 (CL nn pp) ++ [.cells 29 [songC 3 true 0] true, .cells 63 [clockV 0 0 0] true]⟩) (by kernel_rfl) ⟨⟨rfl, rfl⟩, trivial⟩ hβ hr fun a w hr => wp_seq ?_
  refine evV_coarse follows_mixed X1_sound cNone_sound (n := 2) (k := 2) (F := F6) (F0 := F6 6) (ds := [(bv false, []), (bv false, [])]) (rec := [bv (decide (((n + 1 : Nat) : Int) > 4000)) = bv false, bv (decide (((n + 1 : Nat) : Int) < 0)) = bv false]) (ex := .normal) (m := 4) (ks := [4, 5, 6, 7] ++ (List.range 95).map (· + 9)) (p := fun _ _ => true)
    (s' := ⟨d6 [.dead, .dead, iv ((n + 1 : Nat) : Int), .ptr 4 0 0, .dead, .dead, .dead, .dead, .ptr 5 0 0], blankH 128 (CL nn pp) ++ [.cells 29 [songC 3 true 0] true, .cells 63 [clockV 0 0 0] true]⟩) (by kernel_rfl) ⟨bv_eq (decide_eq_false (by omega)), bv_eq (decide_eq_false (by omega)), trivial⟩ hβ hr fun a w hr => wp_seq ?_
  refine evV_coarse follows_mixed X1_sound (cOne_sound quirk_3) (n := 2) (k := 2) (F := F6) (F0 := F6 6) (ds := []) (rec := [[iv 3] = [iv 3] ∧ ([] : H) = []]) (ex := .normal) (m := 4) (ks := [4, 5, 6, 7, 9] ++ (List.range 93).map (· + 11)) (p := fun _ _ => true)
    (s' := ⟨d6 [.dead, .dead, iv ((n + 1 : Nat) : Int), .ptr 4 0 0, .dead, .dead, .dead, .dead, .ptr 5 0 0, .dead, .ptr 6 0 0], blankH 128 (CL nn pp) ++ [.cells 29 [songC 3 true 0] true, .cells 63 [clockV 0 0 0] true, .cells 49 [q3] true]⟩) (by kernel_rfl) ⟨⟨rfl, rfl⟩, trivial⟩ hβ hr fun a w hr => wp_seq ?_
  refine evC_coarse follows_mixed (callE_sound X1_sound) (n := 0) (ex := .normal) (m := 4) (ks := [4, 5, 6, 7, 9, 11] ++ (List.range 91).map (· + 13)) (p := fun _ _ => true)
    (s' := ⟨d6 [.dead, .dead, iv ((n + 1 : Nat) : Int), .ptr 4 0 0, .dead, .dead, .dead, .dead, .ptr 5 0 0, .dead, .ptr 6 0 0, .dead, .row 7 0 1 1], blankH 128 (CL nn pp) ++ [.cells 29 [songC 3 true 0] true, .cells 63 [clockV 0 0 0] true, .cells 49 [q3] true, .cells 58 [mems 1 0] true]⟩) (by kernel_rfl) hβ hr fun a w hr => wp_seq ?_
  refine evC_coarse follows_mixed (callE_sound X1_sound) (n := 0) (ex := .normal) (m := 4) (ks := [4, 5, 6, 7, 9, 11] ++ (List.range 90).map (· + 14)) (p := fun _ _ => true)
    (s' := ⟨d6 [.dead, .dead, iv ((n + 1 : Nat) : Int), .ptr 4 0 0, .dead, .dead, .dead, .dead, .ptr 5 0 0, .dead, .ptr 6 0 0, .dead, .row 7 0 1 1, .row 8 0 1 1], blankH 128 (CL nn pp) ++ [.cells 29 [songC 3 true 0] true, .cells 63 [clockV 0 0 0] true, .cells 49 [q3] true, .cells 58 [mems 1 0] true, .cells 55 [[nilS]] true]⟩) (by kernel_rfl) hβ hr fun a w hr => wp_seq ?_
  refine evV_coarse follows_mixed X1_sound (cOne_sound open_3) (n := 2) (k := 2) (F := F6) (F0 := F6 6) (ds := []) (rec := [[iv 3] = [iv 3] ∧ ([] : H) = []]) (ex := .normal) (m := 4) (ks := [4, 5, 6, 7, 9, 11] ++ (List.range 89).map (· + 15)) (p := fun _ _ => true)
    (s' := ⟨d6 (T1 ((n + 1 : Nat) : Int)), hdH 3 true 128 q3 1 0 0 0 0 nilS nn pp (shT opH3)⟩) (by kernel_rfl) ⟨⟨rfl, rfl⟩, trivial⟩ hβ hr fun a w hr => wp_seq ?_
  refine evC_coarse follows_mixed (callE_sound X1_sound) (n := 0) (ex := .normal) (m := 4) (ks := []) (p := fun _ _ => true)
    (s' := ⟨T1 ((n + 1 : Nat) : Int) ++ nilS :: T2 .dead, hdH 3 true 128 q3 1 0 0 0 0 nilS nn pp (shT opH3)⟩) (by kernel_rfl) hβ hr fun a w hr => hq a w ?_
  exact (Rel.forget (i := 8) (t := 55) (es := [[nilS]]) (ex := true) rfl hr).addGone
theorem wi_4 {nn pp : Nat → Int} {n : Nat} (hn : n ≤ 2000) (hS : Callable Tryz.prog 12 ∧ Run Tryz.prog 12 [.agg (songV 4 true), iv 0] (blankH 128 (CL nn pp)) (.tup [.agg (clockV 0 0 0), iv 0]) (blankH 128 (CL nn pp))) (hβ : β0.length ≤ 4) {a : Act} {w : World} {Q : Exit → Act → World → Prop}
    (hr : Rel Tryz.prog w0 Pr0 β0 ⟨[.agg (songV 4 true), iv 0, iv ((n + 1 : Nat) : Int)] ++ List.replicate 101 uv, blankH 128 (CL nn pp)⟩ a w)
    (hq : ∀ a' w', Rel Tryz.prog w0 Pr0 β0 ⟨T1 ((n + 1 : Nat) : Int) ++ nilS :: T2 .dead, hdH 4 true 128 q4 12 0 0 0 0 .dead nn pp (shT opH4) ++ [.gone]⟩ a' w' → p8.wp Tryz.prog Q a' w') : c6.wp Tryz.prog Q a w := by
  rw [c6_eq]
  refine wp_seq (evC_coarse follows_mixed (callE_sound X1_sound) (n := 0) (ex := .normal) (m := 4) (ks := [0] ++ (List.range 100).map (· + 4)) (p := fun _ _ => true) (s' := ⟨d6 [.dead, iv 0, iv ((n + 1 : Nat) : Int), .ptr 4 0 0], blankH 128 (CL nn pp) ++ [.cells 29 [songC 4 true 0] true]⟩) (by kernel_rfl) hβ hr fun a w hr => wp_seq ?_)
  refine evV_coarse follows_mixed X1_sound (cOne_sound hS) (n := 2) (k := 2) (F := F6) (F0 := F6 6) (ds := []) (rec := [[V.agg (songV 4 true), iv 0] = [V.agg (songV 4 true), iv 0] ∧ blankH 128 (CL nn pp) = blankH 128 (CL nn pp)]) (ex := .normal) (m := 4) (ks := [1, 4, 5, 6, 7] ++ (List.range 94).map (· + 10)) (p := fun _ _ => true)
    (s' := ⟨d6 [.dead, .dead, iv ((n + 1 : Nat) : Int), .ptr 4 0 0, .dead, .dead, .dead, .dead, .ptr 5 0 0, iv 0], blankH 128 (CL nn pp) ++ [.cells 29 [songC 4 true 0] true, .cells 63 [clockV 0 0 0] true]⟩) (by kernel_rfl) ⟨⟨rfl, rfl⟩, trivial⟩ hβ hr fun a w hr => wp_seq ?_
  refine evV_coarse follows_mixed X1_sound cNone_sound (n := 2) (k := 2) (F := F6) (F0 := F6 6) (ds := [(bv false, []), (bv false, [])]) (rec := [bv (decide (((n + 1 : Nat) : Int) > 4000)) = bv false, bv (decide (((n + 1 : Nat) : Int) < 0)) = bv false]) (ex := .normal) (m := 4) (ks := [4, 5, 6, 7] ++ (List.range 95).map (· + 9)) (p := fun _ _ => true)
    (s' := ⟨d6 [.dead, .dead, iv ((n + 1 : Nat) : Int), .ptr 4 0 0, .dead, .dead, .dead, .dead, .ptr 5 0 0], blankH 128 (CL nn pp) ++ [.cells 29 [songC 4 true 0] true, .cells 63 [clockV 0 0 0] true]⟩) (by kernel_rfl) ⟨bv_eq (decide_eq_false (by omega)), bv_eq (decide_eq_false (by omega)), trivial⟩ hβ hr fun a w hr => wp_seq ?_
  refine evV_coarse follows_mixed X1_sound (cOne_sound quirk_4) (n := 2) (k := 2) (F := F6) (F0 := F6 6) (ds := []) (rec := [[iv 4] = [iv 4] ∧ ([] : H) = []]) (ex := .normal) (m := 4) (ks := [4, 5, 6, 7, 9] ++ (List.range 93).map (· + 11)) (p := fun _ _ => true)
    (s' := ⟨d6 [.dead, .dead, iv ((n + 1 : Nat) : Int), .ptr 4 0 0, .dead, .dead, .dead, .dead, .ptr 5 0 0, .dead, .ptr 6 0 0], blankH 128 (CL nn pp) ++ [.cells 29 [songC 4 true 0] true, .cells 63 [clockV 0 0 0] true, .cells 49 [q4] true]⟩) (by kernel_rfl) ⟨⟨rfl, rfl⟩, trivial⟩ hβ hr fun a w hr => wp_seq ?_
  refine evC_coarse follows_mixed (callE_sound X1_sound) (n := 0) (ex := .normal) (m := 4) (ks := [4, 5, 6, 7, 9, 11] ++ (List.range 91).map (· + 13)) (p := fun _ _ => true)
    (s' := ⟨d6 [.dead, .dead, iv ((n + 1 : Nat) : Int), .ptr 4 0 0, .dead, .dead, .dead, .dead, .ptr 5 0 0, .dead, .ptr 6 0 0, .dead, .row 7 0 1 1], blankH 128 (CL nn pp) ++ [.cells 29 [songC 4 true 0] true, .cells 63 [clockV 0 0 0] true, .cells 49 [q4] true, .cells 58 [mems 12 0] true]⟩) (by kernel_rfl) hβ hr fun a w hr => wp_seq ?_
  refine evC_coarse follows_mixed (callE_sound X1_sound) (n := 0) (ex := .normal) (m := 4) (ks := [4, 5, 6, 7, 9, 11] ++ (List.range 90).map (· + 14)) (p := fun _ _ => true)
    (s' := ⟨d6 [.dead, .dead, iv ((n + 1 : Nat) : Int), .ptr 4 0 0, .dead, .dead, .dead, .dead, .ptr 5 0 0, .dead, .ptr 6 0 0, .dead, .row 7 0 1 1, .row 8 0 1 1], blankH 128 (CL nn pp) ++ [.cells 29 [songC 4 true 0] true, .cells 63 [clockV 0 0 0] true, .cells 49 [q4] true, .cells 58 [mems 12 0] true, .cells 55 [[nilS]] true]⟩) (by kernel_rfl) hβ hr fun a w hr => wp_seq ?_
  refine evV_coarse follows_mixed X1_sound (cOne_sound open_4) (n := 2) (k := 2) (F := F6) (F0 := F6 6) (ds := []) (rec := [[iv 4] = [iv 4] ∧ ([] : H) = []]) (ex := .normal) (m := 4) (ks := [4, 5, 6, 7, 9, 11] ++ (List.range 89).map (· + 15)) (p := fun _ _ => true)
    (s' := ⟨d6 (T1 ((n + 1 : Nat) : Int)), hdH 4 true 128 q4 12 0 0 0 0 nilS nn pp (shT opH4)⟩) (by kernel_rfl) ⟨⟨rfl, rfl⟩, trivial⟩ hβ hr fun a w hr => wp_seq ?_
  refine evC_coarse follows_mixed (callE_sound X1_sound) (n := 0) (ex := .normal) (m := 4) (ks := []) (p := fun _ _ => true)
    (s' := ⟨T1 ((n + 1 : Nat) : Int) ++ nilS :: T2 .dead, hdH 4 true 128 q4 12 0 0 0 0 nilS nn pp (shT opH4)⟩) (by kernel_rfl) hβ hr fun a w hr => hq a w ?_
  exact (Rel.forget (i := 8) (t := 55) (es := [[nilS]]) (ex := true) rfl hr).addGone
theorem wi_6 {nn pp : Nat → Int} {n : Nat} (hn : n ≤ 2000) (hS : Callable Tryz.prog 12 ∧ Run Tryz.prog 12 [.agg (songV 6 false), iv 0] (blankH 128 (CL nn pp)) (.tup [.agg (clockV 0 0 0), iv 0]) (blankH 128 (CL nn pp))) (hβ : β0.length ≤ 4) {a : Act} {w : World} {Q : Exit → Act → World → Prop}
    (hr : Rel Tryz.prog w0 Pr0 β0 ⟨[.agg (songV 6 false), iv 0, iv ((n + 1 : Nat) : Int)] ++ List.replicate 101 uv, blankH 128 (CL nn pp)⟩ a w)
    (hq : ∀ a' w', Rel Tryz.prog w0 Pr0 β0 ⟨T1 ((n + 1 : Nat) : Int) ++ nilS :: T2 .dead, hdH 6 false 128 q6 1 0 0 0 0 .dead nn pp (shT opH6) ++ [.gone]⟩ a' w' → p8.wp Tryz.prog Q a' w') : c6.wp Tryz.prog Q a w := by
  rw [c6_eq]
  refine wp_seq (evC_coarse follows_mixed (callE_sound X1_sound) (n := 0) (ex := .normal) (m := 4) (ks := [0] ++ (List.range 100).map (· + 4)) (p := fun _ _ => true) (s' := ⟨d6 [.dead, iv 0, iv ((n + 1 : Nat) : Int), .ptr 4 0 0], blankH 128 (CL nn pp) ++ [.cells 29 [songC 6 false 0] true]⟩) (by kernel_rfl) hβ hr fun a w hr => wp_seq ?_)
  refine evV_coarse follows_mixed X1_sound (cOne_sound hS) (n := 2) (k := 2) (F := F6) (F0 := F6 6) (ds := []) (rec := [[V.agg (songV 6 false), iv 0] = [V.agg (songV 6 false), iv 0] ∧ blankH 128 (CL nn pp) = blankH 128 (CL nn pp)]) (ex := .normal) (m := 4) (ks := [1, 4, 5, 6, 7] ++ (List.range 94).map (· + 10)) (p := fun _ _ => true)
    (s' := ⟨d6 [.dead, .dead, iv ((n + 1 : Nat) : Int), .ptr 4 0 0, .dead, .dead, .dead, .dead, .ptr 5 0 0, iv 0], blankH 128 (CL nn pp) ++ [.cells 29 [songC 6 false 0] true, .cells 63 [clockV 0 0 0] true]⟩) (by kernel_rfl) ⟨⟨rfl, rfl⟩, trivial⟩ hβ hr fun a w hr => wp_seq ?_
  refine evV_coarse follows_mixed X1_sound cNone_sound (n := 2) (k := 2) (F := F6) (F0 := F6 6) (ds := [(bv false, []), (bv false, [])]) (rec := [bv (decide (((n + 1 : Nat) : Int) > 4000)) = bv false, bv (decide (((n + 1 : Nat) : Int) < 0)) = bv false]) (ex := .normal) (m := 4) (ks := [4, 5, 6, 7] ++ (List.range 95).map (· + 9)) (p := fun _ _ => true)
    (s' := ⟨d6 [.dead, .dead, iv ((n + 1 : Nat) : Int), .ptr 4 0 0, .dead, .dead, .dead, .dead, .ptr 5 0 0], blankH 128 (CL nn pp) ++ [.cells 29 [songC 6 false 0] true, .cells 63 [clockV 0 0 0] true]⟩) (by kernel_rfl) ⟨bv_eq (decide_eq_false (by omega)), bv_eq (decide_eq_false (by omega)), trivial⟩ hβ hr fun a w hr => wp_seq ?_
  refine evV_coarse follows_mixed X1_sound (cOne_sound quirk_6) (n := 2) (k := 2) (F := F6) (F0 := F6 6) (ds := []) (rec := [[iv 6] = [iv 6] ∧ ([] : H) = []]) (ex := .normal) (m := 4) (ks := [4, 5, 6, 7, 9] ++ (List.range 93).map (· + 11)) (p := fun _ _ => true)
    (s' := ⟨d6 [.dead, .dead, iv ((n + 1 : Nat) : Int), .ptr 4 0 0, .dead, .dead, .dead, .dead, .ptr 5 0 0, .dead, .ptr 6 0 0], blankH 128 (CL nn pp) ++ [.cells 29 [songC 6 false 0] true, .cells 63 [clockV 0 0 0] true, .cells 49 [q6] true]⟩) (by kernel_rfl) ⟨⟨rfl, rfl⟩, trivial⟩ hβ hr fun a w hr => wp_seq ?_
  refine evC_coarse follows_mixed (callE_sound X1_sound) (n := 0) (ex := .normal) (m := 4) (ks := [4, 5, 6, 7, 9, 11] ++ (List.range 91).map (· + 13)) (p := fun _ _ => true)
    (s' := ⟨d6 [.dead, .dead, iv ((n + 1 : Nat) : Int), .ptr 4 0 0, .dead, .dead, .dead, .dead, .ptr 5 0 0, .dead, .ptr 6 0 0, .dead, .row 7 0 1 1], blankH 128 (CL nn pp) ++ [.cells 29 [songC 6 false 0] true, .cells 63 [clockV 0 0 0] true, .cells 49 [q6] true, .cells 58 [mems 1 0] true]⟩) (by kernel_rfl) hβ hr fun a w hr => wp_seq ?_
  refine evC_coarse follows_mixed (callE_sound X1_sound) (n := 0) (ex := .normal) (m := 4) (ks := [4, 5, 6, 7, 9, 11] ++ (List.range 90).map (· + 14)) (p := fun _ _ => true)
    (s' := ⟨d6 [.dead, .dead, iv ((n + 1 : Nat) : Int), .ptr 4 0 0, .dead, .dead, .dead, .dead, .ptr 5 0 0, .dead, .ptr 6 0 0, .dead, .row 7 0 1 1, .row 8 0 1 1], blankH 128 (CL nn pp) ++ [.cells 29 [songC 6 false 0] true, .cells 63 [clockV 0 0 0] true, .cells 49 [q6] true, .cells 58 [mems 1 0] true, .cells 55 [[nilS]] true]⟩) (by kernel_rfl) hβ hr fun a w hr => wp_seq ?_
  refine evV_coarse follows_mixed X1_sound (cOne_sound open_6) (n := 2) (k := 2) (F := F6) (F0 := F6 6) (ds := []) (rec := [[iv 6] = [iv 6] ∧ ([] : H) = []]) (ex := .normal) (m := 4) (ks := [4, 5, 6, 7, 9, 11] ++ (List.range 89).map (· + 15)) (p := fun _ _ => true)
    (s' := ⟨d6 (T1 ((n + 1 : Nat) : Int)), hdH 6 false 128 q6 1 0 0 0 0 nilS nn pp (shT opH6)⟩) (by kernel_rfl) ⟨⟨rfl, rfl⟩, trivial⟩ hβ hr fun a w hr => wp_seq ?_
  refine evC_coarse follows_mixed (callE_sound X1_sound) (n := 0) (ex := .normal) (m := 4) (ks := []) (p := fun _ _ => true)
    (s' := ⟨T1 ((n + 1 : Nat) : Int) ++ nilS :: T2 .dead, hdH 6 false 128 q6 1 0 0 0 0 nilS nn pp (shT opH6)⟩) (by kernel_rfl) hβ hr fun a w hr => hq a w ?_
  exact (Rel.forget (i := 8) (t := 55) (es := [[nilS]]) (ex := true) rfl hr).addGone
end
end Go.Ab

set_option linter.unusedVariables false
set_option linter.unusedSimpArgs false
namespace Go.Ab
open Go.Proofs
set_option maxRecDepth 100000

/-! ### order.Walk: a row's cells, and whether there is more to do -/
theorem slcE_row {P : Program} {t e : TypeId} {b m c r : Nat} {h : H} {es : List (List V)} {ex : Bool} (h1 : (tyI P t).map (·.d) = some (.slice e)) (h2 : (tyI P e).isSome = true) (hb : getB h b = some (e, es, ex)) (hr : r + 1 ≤ m) :
    slcE P t (.row b 0 m c) (some (iv (r : Int))) (some (iv ((r + 1 : Nat) : Int))) h = some (.row b r 1 (c - r)) := by
  cases ht : tyI P t with
  | none => rw [ht] at h1; cases h1
  | some ti =>
    rw [ht] at h1
    simp only [Option.map_some, Option.some.injEq] at h1
    cases he : tyI P e with
    | none => rw [he] at h2; cases h2
    | some te =>
      simp only [slcE, bndE, asI, Option.bind_some, ht, h1, he, hb]
      rw [if_pos ⟨trivial, by omega, by omega, by omega⟩]
      congr 2
      · omega
      · omega
def F15 : FuncId → Tmp → Bool := fun K t => K == 15 && [12, 34, 2035].contains t
theorem mul1_eq {n : Nat} (hn : n ≤ 2000) : IntKind.i64.wrap ((n : Int) * 1) = (n : Int) := by
  unfold IntKind.wrap
  simp [IntKind.bits, IntKind.signed]
  omega
def c15H (d : Int) (lin : Bool) (pan : Int) (nn pp : Nat → Int) : H := [.cells 29 [songC d lin 1] true] ++ restH pan 1 (CL nn pp)
theorem cells_run {d pan lr lc : Int} {lin : Bool} {nn pp : Nat → Int} {r : Nat} (hr : r < 64) : Callable Tryz.prog 15 ∧ Run Tryz.prog 15 [.ptr 0 0 0, .agg (clockV (r : Int) lr lc)] (c15H d lin pan nn pp) (.row 4 r 1 (64 - r)) (c15H d lin pan nn pp) :=
  run_of_vN X1_sound cNone_sound (F := F15) (n := 4) (ds := [(iv (r : Int), []), (iv ((r + 1 : Nat) : Int), []), (.row 4 r 1 (64 - r), c15H d lin pan nn pp ++ [.cells 63 [clockV (r : Int) lr lc] true])])
    (rec := [slcE Tryz.prog 39 (.row 4 0 64 64) (some (iv (r : Int))) (some (iv ((r + 1 : Nat) : Int))) (c15H d lin pan nn pp ++ [.cells 63 [clockV (r : Int) lr lc] true]) = some (.row 4 r 1 (64 - r)) ∧ c15H d lin pan nn pp ++ [.cells 63 [clockV (r : Int) lr lc] true] = c15H d lin pan nn pp ++ [.cells 63 [clockV (r : Int) lr lc] true],
      iv (IntKind.i64.wrap ((r : Int) + 1)) = iv ((r + 1 : Nat) : Int), iv (IntKind.i64.wrap ((r : Int) * 1)) = iv (r : Int)]) (by kernel_rfl)
    ⟨⟨slcE_row (e := 34) (es := CL nn pp) (ex := true) (by kernel_rfl) (by kernel_rfl) rfl (by omega), rfl⟩, iv_eq (up_eq (by omega)), iv_eq (mul1_eq (by omega)), trivial⟩

/-- The steps so far: what the variable holds, and their block. -/
def vOut (k : Nat) : List Nat → V
  | [] => nilS
  | q :: l => .row k 0 (l.length + 1) (l.length + 1)
def xOut : List Nat → B
  | [] => .gone
  | q :: l => blkS (q :: l)
theorem xOut_refs (l : List Nat) : refsB (xOut l) = [] := by
  cases l with
  | nil => rfl
  | cons q l => exact refs_blkS _
theorem vOut_refs {k : Nat} (l : List Nat) : ∀ i ∈ refs (vOut k l), i = k := by
  cases l with
  | nil => intro i hi; cases hi
  | cons q l => intro i hi; simpa [vOut, refs] using hi
theorem vOut_ren {k : Nat} (l : List Nat) : ∀ f : Nat → Nat, f k = k → ren f (vOut k l) = vOut k l := by
  intro f hf
  cases l with
  | nil => rfl
  | cons q l => simp [vOut, ren, hf]

section
variable {w0 : World} {Pr0 : Nat → Prop} {β0 : Bt}
theorem w_more {d : Int} {lin : Bool} {pan : Int} {qs : List V} {k : Nat} {mv r lr lc : Int} {nn pp : Nat → Int} {tb : H} {kx n : Nat} {l : List Nat} (hl : l.length ≤ n) {a : Act} {w : World} {Q : Exit → Act → World → Prop} (hr : Rel Tryz.prog w0 Pr0 β0 ⟨T1 ((n + 1 : Nat) : Int) ++ vOut kx l :: T2 .dead, hdH d lin pan qs k mv r lr lc .dead nn pp tb ++ [xOut l]⟩ a w)
    (hq : ∀ a' w', Rel Tryz.prog w0 Pr0 β0 ⟨T1 ((n + 1 : Nat) : Int) ++ vOut kx l :: T2 .dead, hdH d lin pan qs k mv r lr lc .dead nn pp tb ++ [xOut l]⟩ a' w' → Q .normal a' w') : (sq1 x6).wp Tryz.prog Q a w := by
  cases l with
  | nil => exact evV_mask (ex := .normal) follows_mixed X1_sound cNone_sound (n := 0) (k := 0) (F := F6) (F0 := F6 6) (ds := [(bv true, [])]) (rec := [bv (decide ((0 : Int) < ((n + 1 : Nat) : Int))) = bv true]) (ks := ks6) (s' := ⟨T1 ((n + 1 : Nat) : Int) ++ vOut kx [] :: T2 .dead, hdH d lin pan qs k mv r lr lc .dead nn pp tb ++ [xOut []]⟩) (by kernel_rfl) ⟨bv_eq (decide_eq_true (by omega)), trivial⟩ hr hq
  | cons q l =>
    rw [List.length_cons] at hl
    exact evV_mask (ex := .normal) follows_mixed X1_sound cNone_sound (n := 0) (k := 0) (F := F6) (F0 := F6 6) (ds := [(bv true, [])]) (rec := [bv (decide (((l.length + 1 : Nat) : Int) < ((n + 1 : Nat) : Int))) = bv true]) (ks := ks6) (s' := ⟨T1 ((n + 1 : Nat) : Int) ++ vOut kx (q :: l) :: T2 .dead, hdH d lin pan qs k mv r lr lc .dead nn pp tb ++ [xOut (q :: l)]⟩) (by kernel_rfl) ⟨bv_eq (decide_eq_true (by omega)), trivial⟩ hr hq
theorem w_done {d : Int} {lin : Bool} {pan : Int} {qs : List V} {k : Nat} {mv r lr lc : Int} {nn pp : Nat → Int} {tb : H} {kx n : Nat} {l : List Nat} (hl : l.length = n + 1) {a : Act} {w : World} {Q : Exit → Act → World → Prop} (hr : Rel Tryz.prog w0 Pr0 β0 ⟨T1 ((n + 1 : Nat) : Int) ++ vOut kx l :: T2 .dead, hdH d lin pan qs k mv r lr lc .dead nn pp tb ++ [xOut l]⟩ a w)
    (hq : ∀ a' w', Rel Tryz.prog w0 Pr0 β0 ⟨T1 ((n + 1 : Nat) : Int) ++ (.row kx 0 (n + 1) (n + 1)) :: T2 .dead, hdH d lin pan qs k mv r lr lc .dead nn pp tb ++ [blkS l]⟩ a' w' → Q (.exit 1) a' w') : (sq1 x6).wp Tryz.prog Q a w := by
  cases l with
  | nil => cases hl
  | cons q l =>
    have hl2 : l.length = n := by simpa using hl
    subst hl2
    exact evV_mask (ex := .exit 1) follows_mixed X1_sound cNone_sound (n := 0) (k := 0) (F := F6) (F0 := F6 6) (ds := [(bv false, [])]) (rec := [bv (decide (((l.length + 1 : Nat) : Int) < ((l.length + 1 : Nat) : Int))) = bv false]) (ks := ks6) (s' := ⟨T1 ((l.length + 1 : Nat) : Int) ++ vOut kx (q :: l) :: T2 .dead, hdH d lin pan qs k mv r lr lc .dead nn pp tb ++ [xOut (q :: l)]⟩) (by kernel_rfl) ⟨bv_eq (decide_eq_false (by omega)), trivial⟩ hr hq
theorem w_end {d : Int} {lin : Bool} {pan : Int} {qs : List V} {k : Nat} {mv r lr lc N : Int} {nn pp : Nat → Int} {tb : H} {v : V} {X : B} {a : Act} {w : World} {Q : Exit → Act → World → Prop} (hr : Rel Tryz.prog w0 Pr0 β0 ⟨T1 N ++ v :: T2 .dead, hdH d lin pan qs k mv r lr lc .dead nn pp tb ++ [X]⟩ a w)
    (hq : ∀ a' w', Rel Tryz.prog w0 Pr0 β0 ⟨((T1 N).set 6 v).set 7 (iv 0) ++ v :: T2 .dead, hdH d lin pan qs k mv r lr lc .dead nn pp tb ++ [X]⟩ a' w' → Q .ret a' w') : (sq2 p8).wp Tryz.prog Q a w :=
  evV_mask (ex := .ret) follows_mixed X1_sound cNone_sound (n := 0) (k := 0) (F := F6) (F0 := F6 6) (ds := []) (rec := []) (ks := ks6) (s' := ⟨((T1 N).set 6 v).set 7 (iv 0) ++ v :: T2 .dead, hdH d lin pan qs k mv r lr lc .dead nn pp tb ++ [X]⟩) (by kernel_rfl) trivial hr hq
end
end Go.Ab
