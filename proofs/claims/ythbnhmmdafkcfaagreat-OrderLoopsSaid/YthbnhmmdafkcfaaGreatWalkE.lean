/- What order.Walk answers on the song of the law. -/
import Derived.Test.YthbnhmmdafkcfaaGreatWalkD
set_option linter.unusedVariables false
set_option linter.unusedSimpArgs false
namespace Go.Ab
open Go.Proofs
set_option maxRecDepth 100000

/-! ### order.Walk on the law's song -/
theorem gc_out {A : H} {b : B} {m : Nat} (hA : A.length = 4) (hAr : (A.all fun x => (refsB x).all fun j => decide (j < 4)) = true) (hb : refsB b = []) : gcE 4 (.tup [.row 4 0 m m, iv 0]) (A ++ [b]) = some (.tup [.row 4 0 m m, iv 0], A ++ [b]) := by
  refine gcE_more (M := 5) (by omega) (by simp [hA]) (by omega) rfl fun i hi x hx j hj => ?_
  by_cases h : i < 4
  · rw [List.getElem?_append_left (by omega)] at hx
    have h3 := List.all_eq_true.1 (List.all_eq_true.1 hAr x (List.mem_of_getElem? hx)) j hj
    simp at h3
    omega
  · have : i = 4 := by omega
    subst this
    rw [List.getElem?_append_right (by omega), hA, Nat.sub_self] at hx
    injection hx with hx
    subst hx
    rw [hb] at hj
    cases hj

theorem cells57 {f t x : Nat} {n0 base : Nat} (h1 : 1 ≤ n0) (h2 : n0 ≤ 36) (h3 : base + x ≤ 255) : ∀ q, q < 64 → Callable Tryz.prog 57 ∧ Run Tryz.prog 57 [.agg (cellC (nnL f t (n0 : Int) (n0 : Int) q) (nnL f t (base : Int) ((base + x : Nat) : Int) q))] [] (bv true) [] := by
  intro q hq
  unfold nnL
  by_cases e1 : q = f
  · rw [if_pos e1, if_pos e1]
    exact vc57 (by omega) (by omega) (by omega) (by omega)
  · rw [if_neg e1, if_neg e1]
    by_cases e2 : q = t
    · rw [if_pos e2, if_pos e2]
      exact vc57 (by omega) (by omega) (by omega) (by omega)
    · rw [if_neg e2, if_neg e2]
      exact vc57_0
theorem blankH_len (pan : Int) (cs : List (List V)) : (blankH pan cs).length = 4 := rfl
def tmE (v : V) : List V := [.dead, .dead, .dead, .dead, .dead, .dead, v, iv 0] ++ List.replicate 96 .dead
def ksE : List Nat := [0, 1, 2, 3, 4, 5] ++ (List.range 96).map (· + 8)

theorem cells29_1 {f t x : Nat} (hx : x ≤ 15) : ∀ q, q < 64 → Callable Tryz.prog 29 ∧ Run Tryz.prog 29 [iv 1, .agg (cellC ((nnL f t ((15 : Nat) : Int) ((15 : Nat) : Int)) q) ((nnL f t ((96 : Nat) : Int) ((96 + x : Nat) : Int)) q))] [] (bv true) [] := by
  intro q hq
  unfold nnL
  by_cases e1 : q = f
  · rw [if_pos e1, if_pos e1]
    exact vc29_1 (by omega) (by omega)
  · rw [if_neg e1, if_neg e1]
    by_cases e2 : q = t
    · rw [if_pos e2, if_pos e2]
      exact vc29_1 (by omega) (by omega)
    · rw [if_neg e2, if_neg e2]
      exact vc29_1_0
theorem w_fin_1 {w0 : World} {Pr0 : Nat → Prop} {β0 : Bt} {nn pp : Nat → Int} {W : List Nat} {n : Nat} {N mv r lr lc : Int} (hβ : β0.length ≤ 4) {a : Act} {w : World} {Q : Exit → Act → World → Prop} (hr : Rel Tryz.prog w0 Pr0 β0 ⟨T1 N ++ (.row 14 0 (n + 1) (n + 1)) :: T2 .dead, hdH 1 false 0 q1 1 mv r lr lc .dead nn pp (shT opH1) ++ [blkS W]⟩ a w)
    (hq : ∀ a' w', Rel Tryz.prog w0 Pr0 β0 ⟨tmE (.row 4 0 (n + 1) (n + 1)), blankH 0 (CL nn pp) ++ [blkS W]⟩ a' w' → Q .ret a' w') : (sq2 p8).wp Tryz.prog Q a w := by
  refine evV_mask (ex := .ret) follows_mixed X1_sound cNone_sound (n := 0) (k := 0) (F := F6) (F0 := F6 6) (ds := []) (rec := []) (ks := ksE) (s' := ⟨tmE (.row 14 0 (n + 1) (n + 1)), blankH 0 (CL nn pp) ++ (([.cells 29 [songC 1 false 0] true, .cells 63 [clockV r lr lc] true, .cells 49 [q1] true, .cells 58 [mems 1 mv] true, .cells 55 [[.dead]] true, .cells 70 [[iv 1, .mp 10]] true] ++ shT opH1) ++ [blkS W])⟩) (by kernel_rfl) trivial hr fun a w hr => hq a w ?_
  exact hr.tail (k := 4) (A := blankH 0 (CL nn pp)) (G := ([.cells 29 [songC 1 false 0] true, .cells 63 [clockV r lr lc] true, .cells 49 [q1] true, .cells 58 [mems 1 mv] true, .cells 55 [[.dead]] true, .cells 70 [[iv 1, .mp 10]] true] ++ shT opH1)) (b := blkS W) (tmw := mask [] (tmE (.row 14 0 (n + 1) (n + 1)))) (by kernel_rfl) (by omega) (by kernel_rfl) (refs_blkS _) (mask_wk _ _ 0) (by kernel_rfl) (by kernel_rfl)
theorem walk_1 {f t x : Nat} (hft : f < t) (ht : t ≤ 63) (hx1 : 1 ≤ x) (hx : x ≤ 15) {n : Nat} (hlen : (wantL f t x).length = n + 1) (hn : n ≤ 1999) :
    Callable Tryz.prog 6 ∧ Run Tryz.prog 6 [.agg (songV 1 false), iv 0, iv ((n + 1 : Nat) : Int)] (blankH 0 (CL (nnL f t ((15 : Nat) : Int) ((15 : Nat) : Int)) (nnL f t ((96 : Nat) : Int) ((96 + x : Nat) : Int)))) (.tup [.row 4 0 (n + 1) (n + 1), iv 0]) (blankH 0 (CL (nnL f t ((15 : Nat) : Int) ((15 : Nat) : Int)) (nnL f t ((96 : Nat) : Int) ((96 + x : Nat) : Int))) ++ [blkS (wantL f t x)]) := by
  refine fn_run Tryz.func6 (c := c6) (by kernel_rfl) (by kernel_rfl) fun w0 Pr0 β0 a w Q hβ hr hfin => ?_
  have hβ4 : β0.length ≤ 4 := by rw [hβ]; exact Nat.le_refl _
  have hr : Rel Tryz.prog w0 Pr0 β0 ⟨[.agg (songV 1 false), iv 0, iv ((n + 1 : Nat) : Int)] ++ List.replicate 101 uv, blankH 0 (CL (nnL f t ((15 : Nat) : Int) ((15 : Nat) : Int)) (nnL f t ((96 : Nat) : Int) ((96 + x : Nat) : Int)))⟩ a w := hr
  refine wi_1 (by omega) (start_1 (cells57 (n0 := 15) (base := 96) (by omega) (by omega) (by omega)) (cells29_1 hx)) hβ4 hr fun a w hr => ?_
  rw [p8_eq]
  refine wp_seq (wp_block (loop_ph (S := SL1 f t x n) (okm := ok1) hft ht hx1 hx hlen rfl (w_step_1 hft ht hx1 hx hn hβ4) (fun mv r lr lc a w hr => ?_) hr))
  rw [x6_eq]
  refine wp_seq (w_done hlen hr fun a w hr => ?_)
  refine w_fin_1 hβ4 hr fun a w hr => ?_
  have e : resE Tryz.prog ⟨tmE (.row 4 0 (n + 1) (n + 1)), blankH 0 (CL (nnL f t ((15 : Nat) : Int) ((15 : Nat) : Int)) (nnL f t ((96 : Nat) : Int) ((96 + x : Nat) : Int))) ++ [blkS (wantL f t x)]⟩ (Tryz.f6.results.toList) = some (.tup [.row 4 0 (n + 1) (n + 1), iv 0]) := by kernel_rfl
  have hc : ((resE Tryz.prog ⟨tmE (.row 4 0 (n + 1) (n + 1)), blankH 0 (CL (nnL f t ((15 : Nat) : Int) ((15 : Nat) : Int)) (nnL f t ((96 : Nat) : Int) ((96 + x : Nat) : Int))) ++ [blkS (wantL f t x)]⟩ (Tryz.f6.results.toList)).bind fun v1 => gcE (blankH 0 (CL (nnL f t ((15 : Nat) : Int) ((15 : Nat) : Int)) (nnL f t ((96 : Nat) : Int) ((96 + x : Nat) : Int)))).length v1 (blankH 0 (CL (nnL f t ((15 : Nat) : Int) ((15 : Nat) : Int)) (nnL f t ((96 : Nat) : Int) ((96 + x : Nat) : Int))) ++ [blkS (wantL f t x)])) = some (.tup [.row 4 0 (n + 1) (n + 1), iv 0], blankH 0 (CL (nnL f t ((15 : Nat) : Int) ((15 : Nat) : Int)) (nnL f t ((96 : Nat) : Int) ((96 + x : Nat) : Int))) ++ [blkS (wantL f t x)]) := by
    rw [e, Option.bind_some, blankH_len]
    exact gc_out (blankH_len _ _) (by kernel_rfl) (refs_blkS _)
  exact hfin .ret ⟨tmE (.row 4 0 (n + 1) (n + 1)), blankH 0 (CL (nnL f t ((15 : Nat) : Int) ((15 : Nat) : Int)) (nnL f t ((96 : Nat) : Int) ((96 + x : Nat) : Int))) ++ [blkS (wantL f t x)]⟩ a w (by simp) hc hr

theorem cells29_2 {f t x : Nat} (hx : x ≤ 15) : ∀ q, q < 64 → Callable Tryz.prog 29 ∧ Run Tryz.prog 29 [iv 2, .agg (cellC ((nnL f t ((29 : Nat) : Int) ((29 : Nat) : Int)) q) ((nnL f t ((176 : Nat) : Int) ((176 + x : Nat) : Int)) q))] [] (bv true) [] := by
  intro q hq
  unfold nnL
  by_cases e1 : q = f
  · rw [if_pos e1, if_pos e1]
    exact vc29_2 (by omega) (by omega)
  · rw [if_neg e1, if_neg e1]
    by_cases e2 : q = t
    · rw [if_pos e2, if_pos e2]
      exact vc29_2 (by omega) (by omega)
    · rw [if_neg e2, if_neg e2]
      exact vc29_2_0
theorem w_fin_2 {w0 : World} {Pr0 : Nat → Prop} {β0 : Bt} {nn pp : Nat → Int} {W : List Nat} {n : Nat} {N mv r lr lc : Int} (hβ : β0.length ≤ 4) {a : Act} {w : World} {Q : Exit → Act → World → Prop} (hr : Rel Tryz.prog w0 Pr0 β0 ⟨T1 N ++ (.row 16 0 (n + 1) (n + 1)) :: T2 .dead, hdH 2 false 128 q2 1 mv r lr lc .dead nn pp (shT opH2) ++ [blkS W]⟩ a w)
    (hq : ∀ a' w', Rel Tryz.prog w0 Pr0 β0 ⟨tmE (.row 4 0 (n + 1) (n + 1)), blankH 128 (CL nn pp) ++ [blkS W]⟩ a' w' → Q .ret a' w') : (sq2 p8).wp Tryz.prog Q a w := by
  refine evV_mask (ex := .ret) follows_mixed X1_sound cNone_sound (n := 0) (k := 0) (F := F6) (F0 := F6 6) (ds := []) (rec := []) (ks := ksE) (s' := ⟨tmE (.row 16 0 (n + 1) (n + 1)), blankH 128 (CL nn pp) ++ (([.cells 29 [songC 2 false 0] true, .cells 63 [clockV r lr lc] true, .cells 49 [q2] true, .cells 58 [mems 1 mv] true, .cells 55 [[.dead]] true, .cells 70 [[iv 2, .mp 10]] true] ++ shT opH2) ++ [blkS W])⟩) (by kernel_rfl) trivial hr fun a w hr => hq a w ?_
  exact hr.tail (k := 4) (A := blankH 128 (CL nn pp)) (G := ([.cells 29 [songC 2 false 0] true, .cells 63 [clockV r lr lc] true, .cells 49 [q2] true, .cells 58 [mems 1 mv] true, .cells 55 [[.dead]] true, .cells 70 [[iv 2, .mp 10]] true] ++ shT opH2)) (b := blkS W) (tmw := mask [] (tmE (.row 16 0 (n + 1) (n + 1)))) (by kernel_rfl) (by omega) (by kernel_rfl) (refs_blkS _) (mask_wk _ _ 0) (by kernel_rfl) (by kernel_rfl)
theorem walk_2 {f t x : Nat} (hft : f < t) (ht : t ≤ 63) (hx1 : 1 ≤ x) (hx : x ≤ 15) {n : Nat} (hlen : (wantL f t x).length = n + 1) (hn : n ≤ 1999) :
    Callable Tryz.prog 6 ∧ Run Tryz.prog 6 [.agg (songV 2 false), iv 0, iv ((n + 1 : Nat) : Int)] (blankH 128 (CL (nnL f t ((29 : Nat) : Int) ((29 : Nat) : Int)) (nnL f t ((176 : Nat) : Int) ((176 + x : Nat) : Int)))) (.tup [.row 4 0 (n + 1) (n + 1), iv 0]) (blankH 128 (CL (nnL f t ((29 : Nat) : Int) ((29 : Nat) : Int)) (nnL f t ((176 : Nat) : Int) ((176 + x : Nat) : Int))) ++ [blkS (wantL f t x)]) := by
  refine fn_run Tryz.func6 (c := c6) (by kernel_rfl) (by kernel_rfl) fun w0 Pr0 β0 a w Q hβ hr hfin => ?_
  have hβ4 : β0.length ≤ 4 := by rw [hβ]; exact Nat.le_refl _
  have hr : Rel Tryz.prog w0 Pr0 β0 ⟨[.agg (songV 2 false), iv 0, iv ((n + 1 : Nat) : Int)] ++ List.replicate 101 uv, blankH 128 (CL (nnL f t ((29 : Nat) : Int) ((29 : Nat) : Int)) (nnL f t ((176 : Nat) : Int) ((176 + x : Nat) : Int)))⟩ a w := hr
  refine wi_2 (by omega) (start_2 (cells57 (n0 := 29) (base := 176) (by omega) (by omega) (by omega)) (cells29_2 hx)) hβ4 hr fun a w hr => ?_
  rw [p8_eq]
  refine wp_seq (wp_block (loop_ph (S := SL2 f t x n) (okm := ok2) hft ht hx1 hx hlen ⟨by omega, by omega⟩ (w_step_2 hft ht hx1 hx hn hβ4) (fun mv r lr lc a w hr => ?_) hr))
  rw [x6_eq]
  refine wp_seq (w_done hlen hr fun a w hr => ?_)
  refine w_fin_2 hβ4 hr fun a w hr => ?_
  have e : resE Tryz.prog ⟨tmE (.row 4 0 (n + 1) (n + 1)), blankH 128 (CL (nnL f t ((29 : Nat) : Int) ((29 : Nat) : Int)) (nnL f t ((176 : Nat) : Int) ((176 + x : Nat) : Int))) ++ [blkS (wantL f t x)]⟩ (Tryz.f6.results.toList) = some (.tup [.row 4 0 (n + 1) (n + 1), iv 0]) := by kernel_rfl
  have hc : ((resE Tryz.prog ⟨tmE (.row 4 0 (n + 1) (n + 1)), blankH 128 (CL (nnL f t ((29 : Nat) : Int) ((29 : Nat) : Int)) (nnL f t ((176 : Nat) : Int) ((176 + x : Nat) : Int))) ++ [blkS (wantL f t x)]⟩ (Tryz.f6.results.toList)).bind fun v1 => gcE (blankH 128 (CL (nnL f t ((29 : Nat) : Int) ((29 : Nat) : Int)) (nnL f t ((176 : Nat) : Int) ((176 + x : Nat) : Int)))).length v1 (blankH 128 (CL (nnL f t ((29 : Nat) : Int) ((29 : Nat) : Int)) (nnL f t ((176 : Nat) : Int) ((176 + x : Nat) : Int))) ++ [blkS (wantL f t x)])) = some (.tup [.row 4 0 (n + 1) (n + 1), iv 0], blankH 128 (CL (nnL f t ((29 : Nat) : Int) ((29 : Nat) : Int)) (nnL f t ((176 : Nat) : Int) ((176 + x : Nat) : Int))) ++ [blkS (wantL f t x)]) := by
    rw [e, Option.bind_some, blankH_len]
    exact gc_out (blankH_len _ _) (by kernel_rfl) (refs_blkS _)
  exact hfin .ret ⟨tmE (.row 4 0 (n + 1) (n + 1)), blankH 128 (CL (nnL f t ((29 : Nat) : Int) ((29 : Nat) : Int)) (nnL f t ((176 : Nat) : Int) ((176 + x : Nat) : Int))) ++ [blkS (wantL f t x)]⟩ a w (by simp) hc hr

theorem cells29_3 {f t x : Nat} (hx : x ≤ 15) : ∀ q, q < 64 → Callable Tryz.prog 29 ∧ Run Tryz.prog 29 [iv 3, .agg (cellC ((nnL f t ((15 : Nat) : Int) ((15 : Nat) : Int)) q) ((nnL f t ((96 : Nat) : Int) ((96 + x : Nat) : Int)) q))] [] (bv true) [] := by
  intro q hq
  unfold nnL
  by_cases e1 : q = f
  · rw [if_pos e1, if_pos e1]
    exact vc29_3 (by omega) (by omega)
  · rw [if_neg e1, if_neg e1]
    by_cases e2 : q = t
    · rw [if_pos e2, if_pos e2]
      exact vc29_3 (by omega) (by omega)
    · rw [if_neg e2, if_neg e2]
      exact vc29_3_0
theorem w_fin_3 {w0 : World} {Pr0 : Nat → Prop} {β0 : Bt} {nn pp : Nat → Int} {W : List Nat} {n : Nat} {N mv r lr lc : Int} (hβ : β0.length ≤ 4) {a : Act} {w : World} {Q : Exit → Act → World → Prop} (hr : Rel Tryz.prog w0 Pr0 β0 ⟨T1 N ++ (.row 14 0 (n + 1) (n + 1)) :: T2 .dead, hdH 3 true 128 q3 1 mv r lr lc .dead nn pp (shT opH3) ++ [blkS W]⟩ a w)
    (hq : ∀ a' w', Rel Tryz.prog w0 Pr0 β0 ⟨tmE (.row 4 0 (n + 1) (n + 1)), blankH 128 (CL nn pp) ++ [blkS W]⟩ a' w' → Q .ret a' w') : (sq2 p8).wp Tryz.prog Q a w := by
  refine evV_mask (ex := .ret) follows_mixed X1_sound cNone_sound (n := 0) (k := 0) (F := F6) (F0 := F6 6) (ds := []) (rec := []) (ks := ksE) (s' := ⟨tmE (.row 14 0 (n + 1) (n + 1)), blankH 128 (CL nn pp) ++ (([.cells 29 [songC 3 true 0] true, .cells 63 [clockV r lr lc] true, .cells 49 [q3] true, .cells 58 [mems 1 mv] true, .cells 55 [[.dead]] true, .cells 70 [[iv 3, .mp 10]] true] ++ shT opH3) ++ [blkS W])⟩) (by kernel_rfl) trivial hr fun a w hr => hq a w ?_
  exact hr.tail (k := 4) (A := blankH 128 (CL nn pp)) (G := ([.cells 29 [songC 3 true 0] true, .cells 63 [clockV r lr lc] true, .cells 49 [q3] true, .cells 58 [mems 1 mv] true, .cells 55 [[.dead]] true, .cells 70 [[iv 3, .mp 10]] true] ++ shT opH3)) (b := blkS W) (tmw := mask [] (tmE (.row 14 0 (n + 1) (n + 1)))) (by kernel_rfl) (by omega) (by kernel_rfl) (refs_blkS _) (mask_wk _ _ 0) (by kernel_rfl) (by kernel_rfl)
theorem walk_3 {f t x : Nat} (hft : f < t) (ht : t ≤ 63) (hx1 : 1 ≤ x) (hx : x ≤ 15) {n : Nat} (hlen : (wantL f t x).length = n + 1) (hn : n ≤ 1999) :
    Callable Tryz.prog 6 ∧ Run Tryz.prog 6 [.agg (songV 3 true), iv 0, iv ((n + 1 : Nat) : Int)] (blankH 128 (CL (nnL f t ((15 : Nat) : Int) ((15 : Nat) : Int)) (nnL f t ((96 : Nat) : Int) ((96 + x : Nat) : Int)))) (.tup [.row 4 0 (n + 1) (n + 1), iv 0]) (blankH 128 (CL (nnL f t ((15 : Nat) : Int) ((15 : Nat) : Int)) (nnL f t ((96 : Nat) : Int) ((96 + x : Nat) : Int))) ++ [blkS (wantL f t x)]) := by
  refine fn_run Tryz.func6 (c := c6) (by kernel_rfl) (by kernel_rfl) fun w0 Pr0 β0 a w Q hβ hr hfin => ?_
  have hβ4 : β0.length ≤ 4 := by rw [hβ]; exact Nat.le_refl _
  have hr : Rel Tryz.prog w0 Pr0 β0 ⟨[.agg (songV 3 true), iv 0, iv ((n + 1 : Nat) : Int)] ++ List.replicate 101 uv, blankH 128 (CL (nnL f t ((15 : Nat) : Int) ((15 : Nat) : Int)) (nnL f t ((96 : Nat) : Int) ((96 + x : Nat) : Int)))⟩ a w := hr
  refine wi_3 (by omega) (start_3 (cells57 (n0 := 15) (base := 96) (by omega) (by omega) (by omega)) (cells29_3 hx)) hβ4 hr fun a w hr => ?_
  rw [p8_eq]
  refine wp_seq (wp_block (loop_ph (S := SL3 f t x n) (okm := ok3) hft ht hx1 hx hlen rfl (w_step_3 hft ht hx1 hx hn hβ4) (fun mv r lr lc a w hr => ?_) hr))
  rw [x6_eq]
  refine wp_seq (w_done hlen hr fun a w hr => ?_)
  refine w_fin_3 hβ4 hr fun a w hr => ?_
  have e : resE Tryz.prog ⟨tmE (.row 4 0 (n + 1) (n + 1)), blankH 128 (CL (nnL f t ((15 : Nat) : Int) ((15 : Nat) : Int)) (nnL f t ((96 : Nat) : Int) ((96 + x : Nat) : Int))) ++ [blkS (wantL f t x)]⟩ (Tryz.f6.results.toList) = some (.tup [.row 4 0 (n + 1) (n + 1), iv 0]) := by kernel_rfl
  have hc : ((resE Tryz.prog ⟨tmE (.row 4 0 (n + 1) (n + 1)), blankH 128 (CL (nnL f t ((15 : Nat) : Int) ((15 : Nat) : Int)) (nnL f t ((96 : Nat) : Int) ((96 + x : Nat) : Int))) ++ [blkS (wantL f t x)]⟩ (Tryz.f6.results.toList)).bind fun v1 => gcE (blankH 128 (CL (nnL f t ((15 : Nat) : Int) ((15 : Nat) : Int)) (nnL f t ((96 : Nat) : Int) ((96 + x : Nat) : Int)))).length v1 (blankH 128 (CL (nnL f t ((15 : Nat) : Int) ((15 : Nat) : Int)) (nnL f t ((96 : Nat) : Int) ((96 + x : Nat) : Int))) ++ [blkS (wantL f t x)])) = some (.tup [.row 4 0 (n + 1) (n + 1), iv 0], blankH 128 (CL (nnL f t ((15 : Nat) : Int) ((15 : Nat) : Int)) (nnL f t ((96 : Nat) : Int) ((96 + x : Nat) : Int))) ++ [blkS (wantL f t x)]) := by
    rw [e, Option.bind_some, blankH_len]
    exact gc_out (blankH_len _ _) (by kernel_rfl) (refs_blkS _)
  exact hfin .ret ⟨tmE (.row 4 0 (n + 1) (n + 1)), blankH 128 (CL (nnL f t ((15 : Nat) : Int) ((15 : Nat) : Int)) (nnL f t ((96 : Nat) : Int) ((96 + x : Nat) : Int))) ++ [blkS (wantL f t x)]⟩ a w (by simp) hc hr

theorem cells29_4 {f t x : Nat} (hx : x ≤ 15) : ∀ q, q < 64 → Callable Tryz.prog 29 ∧ Run Tryz.prog 29 [iv 4, .agg (cellC ((nnL f t ((29 : Nat) : Int) ((29 : Nat) : Int)) q) ((nnL f t ((176 : Nat) : Int) ((176 + x : Nat) : Int)) q))] [] (bv true) [] := by
  intro q hq
  unfold nnL
  by_cases e1 : q = f
  · rw [if_pos e1, if_pos e1]
    exact vc29_4 (by omega) (by omega)
  · rw [if_neg e1, if_neg e1]
    by_cases e2 : q = t
    · rw [if_pos e2, if_pos e2]
      exact vc29_4 (by omega) (by omega)
    · rw [if_neg e2, if_neg e2]
      exact vc29_4_0
theorem w_fin_4 {w0 : World} {Pr0 : Nat → Prop} {β0 : Bt} {nn pp : Nat → Int} {W : List Nat} {n : Nat} {N mv r lr lc : Int} (hβ : β0.length ≤ 4) {a : Act} {w : World} {Q : Exit → Act → World → Prop} (hr : Rel Tryz.prog w0 Pr0 β0 ⟨T1 N ++ (.row 16 0 (n + 1) (n + 1)) :: T2 .dead, hdH 4 true 128 q4 12 mv r lr lc .dead nn pp (shT opH4) ++ [blkS W]⟩ a w)
    (hq : ∀ a' w', Rel Tryz.prog w0 Pr0 β0 ⟨tmE (.row 4 0 (n + 1) (n + 1)), blankH 128 (CL nn pp) ++ [blkS W]⟩ a' w' → Q .ret a' w') : (sq2 p8).wp Tryz.prog Q a w := by
  refine evV_mask (ex := .ret) follows_mixed X1_sound cNone_sound (n := 0) (k := 0) (F := F6) (F0 := F6 6) (ds := []) (rec := []) (ks := ksE) (s' := ⟨tmE (.row 16 0 (n + 1) (n + 1)), blankH 128 (CL nn pp) ++ (([.cells 29 [songC 4 true 0] true, .cells 63 [clockV r lr lc] true, .cells 49 [q4] true, .cells 58 [mems 12 mv] true, .cells 55 [[.dead]] true, .cells 70 [[iv 4, .mp 10]] true] ++ shT opH4) ++ [blkS W])⟩) (by kernel_rfl) trivial hr fun a w hr => hq a w ?_
  exact hr.tail (k := 4) (A := blankH 128 (CL nn pp)) (G := ([.cells 29 [songC 4 true 0] true, .cells 63 [clockV r lr lc] true, .cells 49 [q4] true, .cells 58 [mems 12 mv] true, .cells 55 [[.dead]] true, .cells 70 [[iv 4, .mp 10]] true] ++ shT opH4)) (b := blkS W) (tmw := mask [] (tmE (.row 16 0 (n + 1) (n + 1)))) (by kernel_rfl) (by omega) (by kernel_rfl) (refs_blkS _) (mask_wk _ _ 0) (by kernel_rfl) (by kernel_rfl)
theorem walk_4 {f t x : Nat} (hft : f < t) (ht : t ≤ 63) (hx1 : 1 ≤ x) (hx : x ≤ 15) {n : Nat} (hlen : (wantL f t x).length = n + 1) (hn : n ≤ 1999) :
    Callable Tryz.prog 6 ∧ Run Tryz.prog 6 [.agg (songV 4 true), iv 0, iv ((n + 1 : Nat) : Int)] (blankH 128 (CL (nnL f t ((29 : Nat) : Int) ((29 : Nat) : Int)) (nnL f t ((176 : Nat) : Int) ((176 + x : Nat) : Int)))) (.tup [.row 4 0 (n + 1) (n + 1), iv 0]) (blankH 128 (CL (nnL f t ((29 : Nat) : Int) ((29 : Nat) : Int)) (nnL f t ((176 : Nat) : Int) ((176 + x : Nat) : Int))) ++ [blkS (wantL f t x)]) := by
  refine fn_run Tryz.func6 (c := c6) (by kernel_rfl) (by kernel_rfl) fun w0 Pr0 β0 a w Q hβ hr hfin => ?_
  have hβ4 : β0.length ≤ 4 := by rw [hβ]; exact Nat.le_refl _
  have hr : Rel Tryz.prog w0 Pr0 β0 ⟨[.agg (songV 4 true), iv 0, iv ((n + 1 : Nat) : Int)] ++ List.replicate 101 uv, blankH 128 (CL (nnL f t ((29 : Nat) : Int) ((29 : Nat) : Int)) (nnL f t ((176 : Nat) : Int) ((176 + x : Nat) : Int)))⟩ a w := hr
  refine wi_4 (by omega) (start_4 (cells57 (n0 := 29) (base := 176) (by omega) (by omega) (by omega)) (cells29_4 hx)) hβ4 hr fun a w hr => ?_
  rw [p8_eq]
  refine wp_seq (wp_block (loop_ph (S := SL4 f t x n) (okm := ok4) hft ht hx1 hx hlen ⟨by omega, by omega⟩ (w_step_4 hft ht hx1 hx hn hβ4) (fun mv r lr lc a w hr => ?_) hr))
  rw [x6_eq]
  refine wp_seq (w_done hlen hr fun a w hr => ?_)
  refine w_fin_4 hβ4 hr fun a w hr => ?_
  have e : resE Tryz.prog ⟨tmE (.row 4 0 (n + 1) (n + 1)), blankH 128 (CL (nnL f t ((29 : Nat) : Int) ((29 : Nat) : Int)) (nnL f t ((176 : Nat) : Int) ((176 + x : Nat) : Int))) ++ [blkS (wantL f t x)]⟩ (Tryz.f6.results.toList) = some (.tup [.row 4 0 (n + 1) (n + 1), iv 0]) := by kernel_rfl
  have hc : ((resE Tryz.prog ⟨tmE (.row 4 0 (n + 1) (n + 1)), blankH 128 (CL (nnL f t ((29 : Nat) : Int) ((29 : Nat) : Int)) (nnL f t ((176 : Nat) : Int) ((176 + x : Nat) : Int))) ++ [blkS (wantL f t x)]⟩ (Tryz.f6.results.toList)).bind fun v1 => gcE (blankH 128 (CL (nnL f t ((29 : Nat) : Int) ((29 : Nat) : Int)) (nnL f t ((176 : Nat) : Int) ((176 + x : Nat) : Int)))).length v1 (blankH 128 (CL (nnL f t ((29 : Nat) : Int) ((29 : Nat) : Int)) (nnL f t ((176 : Nat) : Int) ((176 + x : Nat) : Int))) ++ [blkS (wantL f t x)])) = some (.tup [.row 4 0 (n + 1) (n + 1), iv 0], blankH 128 (CL (nnL f t ((29 : Nat) : Int) ((29 : Nat) : Int)) (nnL f t ((176 : Nat) : Int) ((176 + x : Nat) : Int))) ++ [blkS (wantL f t x)]) := by
    rw [e, Option.bind_some, blankH_len]
    exact gc_out (blankH_len _ _) (by kernel_rfl) (refs_blkS _)
  exact hfin .ret ⟨tmE (.row 4 0 (n + 1) (n + 1)), blankH 128 (CL (nnL f t ((29 : Nat) : Int) ((29 : Nat) : Int)) (nnL f t ((176 : Nat) : Int) ((176 + x : Nat) : Int))) ++ [blkS (wantL f t x)]⟩ a w (by simp) hc hr

theorem cells29_6 {f t x : Nat} (hx : x ≤ 15) : ∀ q, q < 64 → Callable Tryz.prog 29 ∧ Run Tryz.prog 29 [iv 6, .agg (cellC ((nnL f t ((15 : Nat) : Int) ((15 : Nat) : Int)) q) ((nnL f t ((96 : Nat) : Int) ((96 + x : Nat) : Int)) q))] [] (bv true) [] := by
  intro q hq
  unfold nnL
  by_cases e1 : q = f
  · rw [if_pos e1, if_pos e1]
    exact vc29_6 (by omega) (by omega)
  · rw [if_neg e1, if_neg e1]
    by_cases e2 : q = t
    · rw [if_pos e2, if_pos e2]
      exact vc29_6 (by omega) (by omega)
    · rw [if_neg e2, if_neg e2]
      exact vc29_6_0
theorem w_fin_6 {w0 : World} {Pr0 : Nat → Prop} {β0 : Bt} {nn pp : Nat → Int} {W : List Nat} {n : Nat} {N mv r lr lc : Int} (hβ : β0.length ≤ 4) {a : Act} {w : World} {Q : Exit → Act → World → Prop} (hr : Rel Tryz.prog w0 Pr0 β0 ⟨T1 N ++ (.row 14 0 (n + 1) (n + 1)) :: T2 .dead, hdH 6 false 128 q6 1 mv r lr lc .dead nn pp (shT opH6) ++ [blkS W]⟩ a w)
    (hq : ∀ a' w', Rel Tryz.prog w0 Pr0 β0 ⟨tmE (.row 4 0 (n + 1) (n + 1)), blankH 128 (CL nn pp) ++ [blkS W]⟩ a' w' → Q .ret a' w') : (sq2 p8).wp Tryz.prog Q a w := by
  refine evV_mask (ex := .ret) follows_mixed X1_sound cNone_sound (n := 0) (k := 0) (F := F6) (F0 := F6 6) (ds := []) (rec := []) (ks := ksE) (s' := ⟨tmE (.row 14 0 (n + 1) (n + 1)), blankH 128 (CL nn pp) ++ (([.cells 29 [songC 6 false 0] true, .cells 63 [clockV r lr lc] true, .cells 49 [q6] true, .cells 58 [mems 1 mv] true, .cells 55 [[.dead]] true, .cells 70 [[iv 6, .mp 10]] true] ++ shT opH6) ++ [blkS W])⟩) (by kernel_rfl) trivial hr fun a w hr => hq a w ?_
  exact hr.tail (k := 4) (A := blankH 128 (CL nn pp)) (G := ([.cells 29 [songC 6 false 0] true, .cells 63 [clockV r lr lc] true, .cells 49 [q6] true, .cells 58 [mems 1 mv] true, .cells 55 [[.dead]] true, .cells 70 [[iv 6, .mp 10]] true] ++ shT opH6)) (b := blkS W) (tmw := mask [] (tmE (.row 14 0 (n + 1) (n + 1)))) (by kernel_rfl) (by omega) (by kernel_rfl) (refs_blkS _) (mask_wk _ _ 0) (by kernel_rfl) (by kernel_rfl)
theorem walk_6 {f t x : Nat} (hft : f < t) (ht : t ≤ 63) (hx1 : 1 ≤ x) (hx : x ≤ 15) {n : Nat} (hlen : (wantL f t x).length = n + 1) (hn : n ≤ 1999) :
    Callable Tryz.prog 6 ∧ Run Tryz.prog 6 [.agg (songV 6 false), iv 0, iv ((n + 1 : Nat) : Int)] (blankH 128 (CL (nnL f t ((15 : Nat) : Int) ((15 : Nat) : Int)) (nnL f t ((96 : Nat) : Int) ((96 + x : Nat) : Int)))) (.tup [.row 4 0 (n + 1) (n + 1), iv 0]) (blankH 128 (CL (nnL f t ((15 : Nat) : Int) ((15 : Nat) : Int)) (nnL f t ((96 : Nat) : Int) ((96 + x : Nat) : Int))) ++ [blkS (wantL f t x)]) := by
  refine fn_run Tryz.func6 (c := c6) (by kernel_rfl) (by kernel_rfl) fun w0 Pr0 β0 a w Q hβ hr hfin => ?_
  have hβ4 : β0.length ≤ 4 := by rw [hβ]; exact Nat.le_refl _
  have hr : Rel Tryz.prog w0 Pr0 β0 ⟨[.agg (songV 6 false), iv 0, iv ((n + 1 : Nat) : Int)] ++ List.replicate 101 uv, blankH 128 (CL (nnL f t ((15 : Nat) : Int) ((15 : Nat) : Int)) (nnL f t ((96 : Nat) : Int) ((96 + x : Nat) : Int)))⟩ a w := hr
  refine wi_6 (by omega) (start_6 (cells57 (n0 := 15) (base := 96) (by omega) (by omega) (by omega)) (cells29_6 hx)) hβ4 hr fun a w hr => ?_
  rw [p8_eq]
  refine wp_seq (wp_block (loop_ph (S := SL6 f t x n) (okm := ok6) hft ht hx1 hx hlen rfl (w_step_6 hft ht hx1 hx hn hβ4) (fun mv r lr lc a w hr => ?_) hr))
  rw [x6_eq]
  refine wp_seq (w_done hlen hr fun a w hr => ?_)
  refine w_fin_6 hβ4 hr fun a w hr => ?_
  have e : resE Tryz.prog ⟨tmE (.row 4 0 (n + 1) (n + 1)), blankH 128 (CL (nnL f t ((15 : Nat) : Int) ((15 : Nat) : Int)) (nnL f t ((96 : Nat) : Int) ((96 + x : Nat) : Int))) ++ [blkS (wantL f t x)]⟩ (Tryz.f6.results.toList) = some (.tup [.row 4 0 (n + 1) (n + 1), iv 0]) := by kernel_rfl
  have hc : ((resE Tryz.prog ⟨tmE (.row 4 0 (n + 1) (n + 1)), blankH 128 (CL (nnL f t ((15 : Nat) : Int) ((15 : Nat) : Int)) (nnL f t ((96 : Nat) : Int) ((96 + x : Nat) : Int))) ++ [blkS (wantL f t x)]⟩ (Tryz.f6.results.toList)).bind fun v1 => gcE (blankH 128 (CL (nnL f t ((15 : Nat) : Int) ((15 : Nat) : Int)) (nnL f t ((96 : Nat) : Int) ((96 + x : Nat) : Int)))).length v1 (blankH 128 (CL (nnL f t ((15 : Nat) : Int) ((15 : Nat) : Int)) (nnL f t ((96 : Nat) : Int) ((96 + x : Nat) : Int))) ++ [blkS (wantL f t x)])) = some (.tup [.row 4 0 (n + 1) (n + 1), iv 0], blankH 128 (CL (nnL f t ((15 : Nat) : Int) ((15 : Nat) : Int)) (nnL f t ((96 : Nat) : Int) ((96 + x : Nat) : Int))) ++ [blkS (wantL f t x)]) := by
    rw [e, Option.bind_some, blankH_len]
    exact gc_out (blankH_len _ _) (by kernel_rfl) (refs_blkS _)
  exact hfin .ret ⟨tmE (.row 4 0 (n + 1) (n + 1)), blankH 128 (CL (nnL f t ((15 : Nat) : Int) ((15 : Nat) : Int)) (nnL f t ((96 : Nat) : Int) ((96 + x : Nat) : Int))) ++ [blkS (wantL f t x)]⟩ a w (by simp) hc hr

theorem want_len {f t x : Nat} (hft : f < t) (ht : t ≤ 63) (hx : x ≤ 15) : (wantL f t x).length ≤ 1164 := by
  unfold wantL
  rw [List.length_append, loopL_length, List.length_range']
  have : (x + 1) * (t + 1 - f) ≤ 16 * 64 := Nat.mul_le_mul (by omega) (by omega)
  omega
theorem walkOk_1 : WalkOk 1 15 96 := fun f t x hft ht hx1 hx n hlen => walk_1 hft ht hx1 hx hlen (by have := want_len hft ht hx; omega)
theorem walkOk_2 : WalkOk 2 29 176 := fun f t x hft ht hx1 hx n hlen => walk_2 hft ht hx1 hx hlen (by have := want_len hft ht hx; omega)
theorem walkOk_3 : WalkOk 3 15 96 := fun f t x hft ht hx1 hx n hlen => walk_3 hft ht hx1 hx hlen (by have := want_len hft ht hx; omega)
theorem walkOk_4 : WalkOk 4 29 176 := fun f t x hft ht hx1 hx n hlen => walk_4 hft ht hx1 hx hlen (by have := want_len hft ht hx; omega)
theorem walkOk_6 : WalkOk 6 15 96 := fun f t x hft ht hx1 hx n hlen => walk_6 hft ht hx1 hx hlen (by have := want_len hft ht hx; omega)
theorem law_all (d f t x : Int) : Callable Tryz.prog 3 ∧ Run Tryz.prog 3 [.agg [iv d, iv f, iv t, iv x]] [] (bv true) [] := law_run walkOk_1 walkOk_2 walkOk_3 walkOk_4 walkOk_6 d f t x
end Go.Ab
