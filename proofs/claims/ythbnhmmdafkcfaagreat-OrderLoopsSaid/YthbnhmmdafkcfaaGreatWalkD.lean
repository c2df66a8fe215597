/- What order.Walk answers on the song of the law. -/
import Derived.Test.YthbnhmmdafkcfaaGreatWalkB
import Derived.Test.YthbnhmmdafkcfaaGreatWalkC
set_option linter.unusedVariables false
set_option linter.unusedSimpArgs false
namespace Go.Ab
open Go.Proofs
set_option maxRecDepth 100000

/-! ### order.Walk: the clock, plainly -/
/-- One row: where the clock stands, the loop's first row and its count, and the same behind it. -/
inductive Nx (f t x : Nat) : Nat → Nat → Nat → Nat → Nat → Nat → Prop
  | go {r lr lc : Nat} (h1 : r ≠ f) (h2 : r ≠ t) (h3 : r < 63) : Nx f t x r lr lc (r + 1) lr lc
  | out {r lr lc : Nat} (h1 : r ≠ f) (h2 : r ≠ t) (h3 : r = 63) : Nx f t x r lr lc 0 0 0
  | beg {r lr lc : Nat} (h1 : r = f) (h3 : r < 63) : Nx f t x r lr lc (r + 1) r lc
  | first {r lr : Nat} (h1 : r = t) (h2 : lr = f) : Nx f t x r lr 0 lr lr x
  | again {r lr c : Nat} (h1 : r = t) (h2 : lr = f) (h3 : 1 ≤ c) (h4 : c ≤ 15) : Nx f t x r lr (c + 1) lr lr c
  | last {r lr : Nat} (h1 : r = t) (h2 : lr = f) (h3 : r < 63) : Nx f t x r lr 1 (r + 1) (r + 1) 0
  | last63 {r lr : Nat} (h1 : r = t) (h2 : lr = f) (h3 : r = 63) : Nx f t x r lr 1 0 0 0

def passes (f t c : Nat) : List Nat := (List.replicate c (List.range' f (t + 1 - f))).flatten ++ List.range' (t + 1) (63 - t)
/-- What is still to come, told by where the clock stands. -/
inductive Ph (f t x : Nat) : Nat → Nat → Nat → List Nat → Prop
  | before {r lr : Nat} (h : r < f) : Ph f t x r lr 0 (List.range' r (f - r) ++ passes f t (x + 1))
  | inl {r lr lc c : Nat} (h1 : f ≤ r) (h2 : r ≤ t) (h3 : f < r → lr = f) (h4 : (lc = 0 ∧ c = x) ∨ lc = c + 1) (h5 : c ≤ x) : Ph f t x r lr lc (List.range' r (t + 1 - r) ++ passes f t c)
  | after {r lr lc : Nat} (h1 : t < r) (h2 : r ≤ 63) : Ph f t x r lr lc (List.range' r (64 - r))
  | done {r lr lc : Nat} : Ph f t x r lr lc []

theorem range_cons {s n : Nat} (h : 0 < n) : List.range' s n = s :: List.range' (s + 1) (n - 1) := by
  obtain ⟨m, rfl⟩ : ∃ m, n = m + 1 := ⟨n - 1, by omega⟩
  rfl
theorem passes_succ (f t c : Nat) : passes f t (c + 1) = List.range' f (t + 1 - f) ++ passes f t c := by
  unfold passes
  rw [List.replicate_succ, List.flatten_cons, List.append_assoc]

theorem Ph.start {f t x : Nat} (hft : f < t) : Ph f t x 0 0 0 (wantL f t x) := by
  have e : wantL f t x = List.range' 0 f ++ passes f t (x + 1) := by
    unfold wantL loopL passes
    rw [List.append_assoc, List.range_eq_range']
  rw [e]
  by_cases hf : f = 0
  · subst hf
    rw [passes_succ]
    exact Ph.inl (Nat.le_refl _) (by omega) (fun h => by omega) (.inl ⟨rfl, rfl⟩) (Nat.le_refl _)
  · exact Ph.before (by omega)

theorem Ph.step {f t x : Nat} (hft : f < t) (ht : t ≤ 63) (hx1 : 1 ≤ x) (hx : x ≤ 15) {r lr lc q : Nat} {l : List Nat} (h : Ph f t x r lr lc (q :: l)) :
    q = r ∧ r < 64 ∧ ∃ r' lr' lc', Nx f t x r lr lc r' lr' lc' ∧ Ph f t x r' lr' lc' l := by
  generalize hm : q :: l = m at h
  cases h with
  | before h =>
    rw [range_cons (by omega), List.cons_append] at hm
    injection hm with e1 e2
    subst e1 e2
    refine ⟨rfl, by omega, q + 1, lr, 0, .go (by omega) (by omega) (by omega), ?_⟩
    by_cases h2 : q + 1 = f
    · subst h2
      rw [show q + 1 - q - 1 = 0 by omega, passes_succ]
      exact Ph.inl (Nat.le_refl _) (by omega) (fun h => by omega) (.inl ⟨rfl, rfl⟩) (Nat.le_refl _)
    · rw [show f - q - 1 = f - (q + 1) by omega]
      exact Ph.before (by omega)
  | @inl _ c h1 h2 h3 h4 h5 =>
    rw [range_cons (by omega), List.cons_append] at hm
    injection hm with e1 e2
    subst e1 e2
    refine ⟨rfl, by omega, ?_⟩
    by_cases hqt : q = t
    · subst hqt
      have hlr := h3 hft
      subst hlr
      rw [show q + 1 - q - 1 = 0 by omega, show List.range' (q + 1) 0 = [] from rfl, List.nil_append]
      rcases h4 with ⟨rfl, rfl⟩ | rfl
      · obtain ⟨c', rfl⟩ : ∃ m, c = m + 1 := ⟨c - 1, by omega⟩
        refine ⟨lr, lr, c' + 1, .first rfl rfl, ?_⟩
        rw [passes_succ]
        exact Ph.inl (Nat.le_refl _) (by omega) (fun h => by omega) (.inr rfl) (by omega)
      · cases c with
        | zero =>
          by_cases h63 : q = 63
          · refine ⟨0, 0, 0, .last63 rfl rfl h63, ?_⟩
            have : passes lr q 0 = [] := by
              subst h63
              rfl
            rw [this]
            exact .done
          · refine ⟨q + 1, q + 1, 0, .last rfl rfl (by omega), ?_⟩
            have : passes lr q 0 = List.range' (q + 1) (64 - (q + 1)) := by
              unfold passes
              rw [show 64 - (q + 1) = 63 - q by omega]
              rfl
            rw [this]
            exact .after (by omega) (by omega)
        | succ c' =>
          refine ⟨lr, lr, c' + 1, .again rfl rfl (by omega) (by omega), ?_⟩
          rw [passes_succ]
          exact Ph.inl (Nat.le_refl _) (by omega) (fun h => by omega) (.inr rfl) (by omega)
    · rw [show t + 1 - q - 1 = t + 1 - (q + 1) by omega]
      by_cases hqf : q = f
      · subst hqf
        exact ⟨q + 1, q, lc, .beg rfl (by omega), .inl (by omega) (by omega) (fun _ => rfl) h4 h5⟩
      · exact ⟨q + 1, lr, lc, .go hqf hqt (by omega), .inl (by omega) (by omega) (fun _ => h3 (by omega)) h4 h5⟩
  | after h1 h2 =>
    rw [range_cons (by omega)] at hm
    injection hm with e1 e2
    subst e1 e2
    refine ⟨rfl, by omega, ?_⟩
    by_cases h63 : q = 63
    · refine ⟨0, 0, 0, .out (by omega) (by omega) h63, ?_⟩
      subst h63
      exact .done
    · refine ⟨q + 1, lr, lc, .go (by omega) (by omega) (by omega), ?_⟩
      rw [show 64 - q - 1 = 64 - (q + 1) by omega]
      exact .after (by omega) (by omega)
  | done => cases hm

section
variable {P : Program} {w0 : World} {Pr0 : Nat → Prop} {β0 : Bt}
theorem loop_ph {f t x n : Nat} (hft : f < t) (ht : t ≤ 63) (hx1 : 1 ≤ x) (hx : x ≤ 15) (hlen : (wantL f t x).length = n + 1) {S : Int → Nat → Nat → Nat → List Nat → St} {okm : Int → Prop} {X : Code} {Q : Exit → Act → World → Prop} (h0 : okm 0)
    (hstep : ∀ (mv : Int) (r lr lc r' lr' lc' : Nat) (W : List Nat), okm mv → W.length ≤ n → r < 64 → Nx f t x r lr lc r' lr' lc' → ∀ (Q' : Exit → Act → World → Prop) a w, Rel P w0 Pr0 β0 (S mv r lr lc W) a w →
      (∀ mv' a' w', okm mv' → Rel P w0 Pr0 β0 (S mv' r' lr' lc' (W ++ [r])) a' w' → Q' .normal a' w') → X.wp P Q' a w)
    (hend : ∀ mv r lr lc a w, Rel P w0 Pr0 β0 (S mv r lr lc (wantL f t x)) a w → X.wp P (Exit.then (fun _ _ => False) Q) a w)
    {a : Act} {w : World} (hr : Rel P w0 Pr0 β0 (S 0 0 0 0 []) a w) : (Code.loop X).wp P Q a w := by
  refine wp_loop_ghost (fun j a w => ∃ mv r lr lc W l, okm mv ∧ W ++ l = wantL f t x ∧ j = l.length ∧ Ph f t x r lr lc l ∧ Rel P w0 Pr0 β0 (S mv r lr lc W) a w) (wantL f t x).length ⟨0, 0, 0, 0, [], wantL f t x, h0, rfl, rfl, Ph.start hft, hr⟩ fun j a w hI => ?_
  obtain ⟨mv, r, lr, lc, W, l, h1, h2, h3, h4, h5⟩ := hI
  cases l with
  | nil =>
    rw [List.append_nil] at h2
    subst h2
    refine wp_mono (hend mv r lr lc a w h5) fun e a' w' hq => ?_
    cases e with
    | normal => exact hq.elim
    | exit id => exact hq
    | goto l => exact hq
    | ret => exact hq
    | panic => exact hq
    | outgrown => exact hq
  | cons q l =>
    obtain ⟨rfl, hr64, r', lr', lc', hn, hp⟩ := h4.step hft ht hx1 hx
    have hW : W.length ≤ n := by
      have := congrArg List.length h2
      rw [List.length_append, hlen, List.length_cons] at this
      omega
    refine hstep mv q lr lc r' lr' lc' W h1 hW hr64 hn _ a w h5 fun mv' a' w' hok hr' => ?_
    exact ⟨l.length, by rw [h3, List.length_cons]; omega, mv', r', lr', lc', W ++ [q], l, hok, by rw [List.append_assoc]; exact h2, rfl, hp, hr'⟩
end

theorem gcE_more {m M : Nat} {v : V} {h : H} (hM : M ≤ 400) (hl : h.length = M) (hmM : m ≤ M) (hv : List.range m ++ refs v = List.range M) (hc : ∀ i, i < M → ∀ b, h[i]? = some b → ∀ j ∈ refsB b, j < M) : gcE m v h = some (v, h) := by
  have hreach : reach h 400 [] (List.range m ++ refs v) = List.range M := by
    have := reach_range (h := h) (m := M) (fun i hi j hj => by
      cases hb : h[i]? with
      | none => rw [hb] at hj; simp at hj
      | some b => rw [hb] at hj; exact hc i hi b hb j (by simpa using hj)) M 0 400 [] (by omega) hM (by simp)
    have e0 : List.range 0 = [] := rfl
    rw [e0, ← List.range_eq_range', List.append_nil] at this
    rw [hv]
    exact this
  have hrv : ∀ j ∈ refs v, j < M := fun j hj => by
    have : j ∈ List.range M := by rw [← hv]; exact List.mem_append_right _ hj
    simpa using this
  unfold gcE
  rw [hreach]
  dsimp only
  have h1 : inV (List.range M) v = true := List.all_eq_true.2 fun j hj => by simpa using hrv j hj
  have h2 : (List.range M).all (fun i => inB (List.range M) ((h[i]?).getD .gone) && decide (i < h.length)) = true := List.all_eq_true.2 fun i hi => by
    have him := List.mem_range.1 hi
    have hlt : i < h.length := by omega
    rw [List.getElem?_eq_getElem hlt, Option.getD_some]
    simp only [Bool.and_eq_true, decide_eq_true_eq]
    exact ⟨List.all_eq_true.2 fun j hj => by simpa using hc i him _ (List.getElem?_eq_getElem hlt) j hj, hlt⟩
  have h3 : ((List.range M).take m == List.range m) = true := by
    rw [List.take_range, Nat.min_eq_left hmM]; simp
  rw [h1, h2, h3]
  simp only [Bool.and_self, if_true]
  congr 2
  · exact ren_id _ _ fun i hi => place_range (hrv i hi)
  · rw [sub_range (by omega) hc, ← hl, List.take_length]
end Go.Ab

set_option linter.unusedVariables false
set_option linter.unusedSimpArgs false
namespace Go.Ab
open Go.Proofs
set_option maxRecDepth 100000

/-! ### order.Walk on the song, one dialect -/
def SL1 (f t x n : Nat) (mv : Int) (r lr lc : Nat) (W : List Nat) : St := ⟨T1 ((n + 1 : Nat) : Int) ++ vOut 14 W :: T2 .dead, hdH 1 false 0 q1 1 mv (r : Int) (lr : Int) (lc : Int) .dead (nnL f t ((15 : Nat) : Int) ((15 : Nat) : Int)) (nnL f t ((96 : Nat) : Int) ((96 + x : Nat) : Int)) (shT opH1) ++ [xOut W]⟩
def ok1 (mv : Int) : Prop := mv = 0
section
variable {w0 : World} {Pr0 : Nat → Prop} {β0 : Bt}
theorem w_step_1 {f t x n : Nat} (hft : f < t) (ht : t ≤ 63) (hx1 : 1 ≤ x) (hx : x ≤ 15) (hn : n ≤ 1999) (hβ : β0.length ≤ 4) : ∀ (mv : Int) (r lr lc r' lr' lc' : Nat) (W : List Nat), ok1 mv → W.length ≤ n → r < 64 → Nx f t x r lr lc r' lr' lc' → ∀ (Q' : Exit → Act → World → Prop) a w, Rel Tryz.prog w0 Pr0 β0 (SL1 f t x n mv r lr lc W) a w →
      (∀ mv' a' w', ok1 mv' → Rel Tryz.prog w0 Pr0 β0 (SL1 f t x n mv' r' lr' lc' (W ++ [r])) a' w' → Q' .normal a' w') → x6.wp Tryz.prog Q' a w := by
  intro mv r lr lc r' lr' lc' W hm hW hr64 hnx Q' a w hr hq
  unfold ok1 at hm
  subst hm
  rw [x6_eq]
  refine wp_seq (w_more hW hr fun a w hr => wp_block (wp_seq ?_))
  by_cases hrf : r = f
  · have hcell : cellC ((nnL f t ((15 : Nat) : Int) ((15 : Nat) : Int)) r) ((nnL f t ((96 : Nat) : Int) ((96 + x : Nat) : Int)) r) = cellC 15 ((0 + 96 : Nat) : Int) := by
      subst hrf
      simp [nnL]
    cases hnx with
    | beg h1 h3 =>
      refine w_reso_1 (mv := 0) (x := 0) (by omega) hr64 hcell (xOut_refs W) (vOut_refs W) (vOut_ren W) hβ hr fun a w hr => ?_
      refine w_rowo_1 (x := 0) (rowb_1 (r := r) h3) (xOut_refs W) (vOut_refs W) (vOut_ren W) hβ hr fun a w hr => ?_
      exact w_app_1 (by omega) hβ hr fun a w hr => hq _ a w rfl hr
    | go h1 h2 h3 => exact absurd hrf h1
    | out h1 h2 h3 => exact absurd hrf h1
    | first h1 h2 => omega
    | again h1 h2 h3 h4 => omega
    | last h1 h2 h3 => omega
    | last63 h1 h2 h3 => omega
  by_cases hrt : r = t
  · have hcell : cellC ((nnL f t ((15 : Nat) : Int) ((15 : Nat) : Int)) r) ((nnL f t ((96 : Nat) : Int) ((96 + x : Nat) : Int)) r) = cellC 15 ((x + 96 : Nat) : Int) := by
      rw [Nat.add_comm x 96]
      simp [nnL, hrt, Nat.ne_of_gt hft]
    cases hnx with
    | beg h1 h3 => exact absurd h1 hrf
    | go h1 h2 h3 => exact absurd hrt h2
    | out h1 h2 h3 => exact absurd hrt h2
    | first h1 h2 =>
      refine w_reso_1 (mv := 0) (x := x) (by omega) hr64 hcell (xOut_refs W) (vOut_refs W) (vOut_ren W) hβ hr fun a w hr => ?_
      refine w_rowo_1 (x := x) (rowe0_1 (f := lr) (t := r) (by omega) (by omega) hx1 hx) (xOut_refs W) (vOut_refs W) (vOut_ren W) hβ hr fun a w hr => ?_
      exact w_app_1 (by omega) hβ hr fun a w hr => hq _ a w rfl hr
    | again h1 h2 h3 h4 =>
      refine w_reso_1 (mv := 0) (x := x) (by omega) hr64 hcell (xOut_refs W) (vOut_refs W) (vOut_ren W) hβ hr fun a w hr => ?_
      refine w_rowo_1 (x := x) (rowe2_1 (f := lr) (t := r) (by omega) (by omega) hx1 hx h3 h4) (xOut_refs W) (vOut_refs W) (vOut_ren W) hβ hr fun a w hr => ?_
      exact w_app_1 (by omega) hβ hr fun a w hr => hq _ a w rfl hr
    | last h1 h2 h3 =>
      refine w_reso_1 (mv := 0) (x := x) (by omega) hr64 hcell (xOut_refs W) (vOut_refs W) (vOut_ren W) hβ hr fun a w hr => ?_
      refine w_rowo_1 (x := x) (rowe1_1 (f := lr) (r := r) (by omega) h3 hx1 hx) (xOut_refs W) (vOut_refs W) (vOut_ren W) hβ hr fun a w hr => ?_
      exact w_app_1 (by omega) hβ hr fun a w hr => hq _ a w rfl hr
    | last63 h1 h2 h3 =>
      subst h3
      refine w_reso_1 (mv := 0) (x := x) (by omega) hr64 hcell (xOut_refs W) (vOut_refs W) (vOut_ren W) hβ hr fun a w hr => ?_
      refine w_rowo_1 (x := x) (r := 63) (rowe63_1 (f := lr) (by omega) hx1 hx) (xOut_refs W) (vOut_refs W) (vOut_ren W) hβ hr fun a w hr => ?_
      exact w_app_1 (by omega) hβ hr fun a w hr => hq _ a w rfl hr
  · have hcell : cellC ((nnL f t ((15 : Nat) : Int) ((15 : Nat) : Int)) r) ((nnL f t ((96 : Nat) : Int) ((96 + x : Nat) : Int)) r) = cellC 0 0 := by
      simp [nnL, hrf, hrt]
    cases hnx with
    | beg h1 h3 => exact absurd h1 hrf
    | go h1 h2 h3 =>
      refine w_rese_1 (mv := 0)  hr64 hcell (xOut_refs W) (vOut_refs W) (vOut_ren W) hβ hr fun a w hr => ?_
      refine w_rowe_1 (row_1_lt (r := r) h3) (xOut_refs W) (vOut_refs W) (vOut_ren W) hβ hr fun a w hr => ?_
      exact w_app_1 (by omega) hβ hr fun a w hr => hq _ a w rfl hr
    | out h1 h2 h3 =>
      subst h3
      refine w_rese_1 (mv := 0)  hr64 hcell (xOut_refs W) (vOut_refs W) (vOut_ren W) hβ hr fun a w hr => ?_
      refine w_rowe_1 (r := 63) row_1_63 (xOut_refs W) (vOut_refs W) (vOut_ren W) hβ hr fun a w hr => ?_
      exact w_app_1 (by omega) hβ hr fun a w hr => hq _ a w rfl hr
    | first h1 h2 => exact absurd h1 hrt
    | again h1 h2 h3 h4 => exact absurd h1 hrt
    | last h1 h2 h3 => exact absurd h1 hrt
    | last63 h1 h2 h3 => exact absurd h1 hrt
end
end Go.Ab

set_option linter.unusedVariables false
set_option linter.unusedSimpArgs false
namespace Go.Ab
open Go.Proofs
set_option maxRecDepth 100000

/-! ### order.Walk on the song, one dialect -/
def SL2 (f t x n : Nat) (mv : Int) (r lr lc : Nat) (W : List Nat) : St := ⟨T1 ((n + 1 : Nat) : Int) ++ vOut 16 W :: T2 .dead, hdH 2 false 128 q2 1 mv (r : Int) (lr : Int) (lc : Int) .dead (nnL f t ((29 : Nat) : Int) ((29 : Nat) : Int)) (nnL f t ((176 : Nat) : Int) ((176 + x : Nat) : Int)) (shT opH2) ++ [xOut W]⟩
def ok2 (mv : Int) : Prop := 0 ≤ mv ∧ mv ≤ 255
section
variable {w0 : World} {Pr0 : Nat → Prop} {β0 : Bt}
theorem w_step_2 {f t x n : Nat} (hft : f < t) (ht : t ≤ 63) (hx1 : 1 ≤ x) (hx : x ≤ 15) (hn : n ≤ 1999) (hβ : β0.length ≤ 4) : ∀ (mv : Int) (r lr lc r' lr' lc' : Nat) (W : List Nat), ok2 mv → W.length ≤ n → r < 64 → Nx f t x r lr lc r' lr' lc' → ∀ (Q' : Exit → Act → World → Prop) a w, Rel Tryz.prog w0 Pr0 β0 (SL2 f t x n mv r lr lc W) a w →
      (∀ mv' a' w', ok2 mv' → Rel Tryz.prog w0 Pr0 β0 (SL2 f t x n mv' r' lr' lc' (W ++ [r])) a' w' → Q' .normal a' w') → x6.wp Tryz.prog Q' a w := by
  intro mv r lr lc r' lr' lc' W hm hW hr64 hnx Q' a w hr hq
  
  rw [x6_eq]
  refine wp_seq (w_more hW hr fun a w hr => wp_block (wp_seq ?_))
  by_cases hrf : r = f
  · have hcell : cellC ((nnL f t ((29 : Nat) : Int) ((29 : Nat) : Int)) r) ((nnL f t ((176 : Nat) : Int) ((176 + x : Nat) : Int)) r) = cellC 29 ((0 + 176 : Nat) : Int) := by
      subst hrf
      simp [nnL]
    cases hnx with
    | beg h1 h3 =>
      refine w_reso_2  hm.1 hm.2 (x := 0) (by omega) hr64 hcell (xOut_refs W) (vOut_refs W) (vOut_ren W) hβ hr fun a w hr => ?_
      refine w_rowo_2 (x := 0) (rowb_2 (r := r) h3) (xOut_refs W) (vOut_refs W) (vOut_ren W) hβ hr fun a w hr => ?_
      exact w_app_2 (by omega) hβ hr fun a w hr => hq _ a w ⟨by omega, by omega⟩ hr
    | go h1 h2 h3 => exact absurd hrf h1
    | out h1 h2 h3 => exact absurd hrf h1
    | first h1 h2 => omega
    | again h1 h2 h3 h4 => omega
    | last h1 h2 h3 => omega
    | last63 h1 h2 h3 => omega
  by_cases hrt : r = t
  · have hcell : cellC ((nnL f t ((29 : Nat) : Int) ((29 : Nat) : Int)) r) ((nnL f t ((176 : Nat) : Int) ((176 + x : Nat) : Int)) r) = cellC 29 ((x + 176 : Nat) : Int) := by
      rw [Nat.add_comm x 176]
      simp [nnL, hrt, Nat.ne_of_gt hft]
    cases hnx with
    | beg h1 h3 => exact absurd h1 hrf
    | go h1 h2 h3 => exact absurd hrt h2
    | out h1 h2 h3 => exact absurd hrt h2
    | first h1 h2 =>
      refine w_reso_2  hm.1 hm.2 (x := x) (by omega) hr64 hcell (xOut_refs W) (vOut_refs W) (vOut_ren W) hβ hr fun a w hr => ?_
      refine w_rowo_2 (x := x) (rowe0_2 (f := lr) (t := r) (by omega) (by omega) hx1 hx) (xOut_refs W) (vOut_refs W) (vOut_ren W) hβ hr fun a w hr => ?_
      exact w_app_2 (by omega) hβ hr fun a w hr => hq _ a w ⟨by omega, by omega⟩ hr
    | again h1 h2 h3 h4 =>
      refine w_reso_2  hm.1 hm.2 (x := x) (by omega) hr64 hcell (xOut_refs W) (vOut_refs W) (vOut_ren W) hβ hr fun a w hr => ?_
      refine w_rowo_2 (x := x) (rowe2_2 (f := lr) (t := r) (by omega) (by omega) hx1 hx h3 h4) (xOut_refs W) (vOut_refs W) (vOut_ren W) hβ hr fun a w hr => ?_
      exact w_app_2 (by omega) hβ hr fun a w hr => hq _ a w ⟨by omega, by omega⟩ hr
    | last h1 h2 h3 =>
      refine w_reso_2  hm.1 hm.2 (x := x) (by omega) hr64 hcell (xOut_refs W) (vOut_refs W) (vOut_ren W) hβ hr fun a w hr => ?_
      refine w_rowo_2 (x := x) (rowe1_2 (f := lr) (r := r) (by omega) h3 hx1 hx) (xOut_refs W) (vOut_refs W) (vOut_ren W) hβ hr fun a w hr => ?_
      exact w_app_2 (by omega) hβ hr fun a w hr => hq _ a w ⟨by omega, by omega⟩ hr
    | last63 h1 h2 h3 =>
      subst h3
      refine w_reso_2  hm.1 hm.2 (x := x) (by omega) hr64 hcell (xOut_refs W) (vOut_refs W) (vOut_ren W) hβ hr fun a w hr => ?_
      refine w_rowo_2 (x := x) (r := 63) (rowe63_2 (f := lr) (by omega) hx1 hx) (xOut_refs W) (vOut_refs W) (vOut_ren W) hβ hr fun a w hr => ?_
      exact w_app_2 (by omega) hβ hr fun a w hr => hq _ a w ⟨by omega, by omega⟩ hr
  · have hcell : cellC ((nnL f t ((29 : Nat) : Int) ((29 : Nat) : Int)) r) ((nnL f t ((176 : Nat) : Int) ((176 + x : Nat) : Int)) r) = cellC 0 0 := by
      simp [nnL, hrf, hrt]
    cases hnx with
    | beg h1 h3 => exact absurd h1 hrf
    | go h1 h2 h3 =>
      refine w_rese_2  hm.1 hm.2  hr64 hcell (xOut_refs W) (vOut_refs W) (vOut_ren W) hβ hr fun a w hr => ?_
      refine w_rowe_2 (row_2_lt (r := r) h3) (xOut_refs W) (vOut_refs W) (vOut_ren W) hβ hr fun a w hr => ?_
      exact w_app_2 (by omega) hβ hr fun a w hr => hq _ a w hm hr
    | out h1 h2 h3 =>
      subst h3
      refine w_rese_2  hm.1 hm.2  hr64 hcell (xOut_refs W) (vOut_refs W) (vOut_ren W) hβ hr fun a w hr => ?_
      refine w_rowe_2 (r := 63) row_2_63 (xOut_refs W) (vOut_refs W) (vOut_ren W) hβ hr fun a w hr => ?_
      exact w_app_2 (by omega) hβ hr fun a w hr => hq _ a w hm hr
    | first h1 h2 => exact absurd h1 hrt
    | again h1 h2 h3 h4 => exact absurd h1 hrt
    | last h1 h2 h3 => exact absurd h1 hrt
    | last63 h1 h2 h3 => exact absurd h1 hrt
end
end Go.Ab

set_option linter.unusedVariables false
set_option linter.unusedSimpArgs false
namespace Go.Ab
open Go.Proofs
set_option maxRecDepth 100000

/-! ### order.Walk on the song, one dialect -/
def SL3 (f t x n : Nat) (mv : Int) (r lr lc : Nat) (W : List Nat) : St := ⟨T1 ((n + 1 : Nat) : Int) ++ vOut 14 W :: T2 .dead, hdH 3 true 128 q3 1 mv (r : Int) (lr : Int) (lc : Int) .dead (nnL f t ((15 : Nat) : Int) ((15 : Nat) : Int)) (nnL f t ((96 : Nat) : Int) ((96 + x : Nat) : Int)) (shT opH3) ++ [xOut W]⟩
def ok3 (mv : Int) : Prop := mv = 0
section
variable {w0 : World} {Pr0 : Nat → Prop} {β0 : Bt}
theorem w_step_3 {f t x n : Nat} (hft : f < t) (ht : t ≤ 63) (hx1 : 1 ≤ x) (hx : x ≤ 15) (hn : n ≤ 1999) (hβ : β0.length ≤ 4) : ∀ (mv : Int) (r lr lc r' lr' lc' : Nat) (W : List Nat), ok3 mv → W.length ≤ n → r < 64 → Nx f t x r lr lc r' lr' lc' → ∀ (Q' : Exit → Act → World → Prop) a w, Rel Tryz.prog w0 Pr0 β0 (SL3 f t x n mv r lr lc W) a w →
      (∀ mv' a' w', ok3 mv' → Rel Tryz.prog w0 Pr0 β0 (SL3 f t x n mv' r' lr' lc' (W ++ [r])) a' w' → Q' .normal a' w') → x6.wp Tryz.prog Q' a w := by
  intro mv r lr lc r' lr' lc' W hm hW hr64 hnx Q' a w hr hq
  unfold ok3 at hm
  subst hm
  rw [x6_eq]
  refine wp_seq (w_more hW hr fun a w hr => wp_block (wp_seq ?_))
  by_cases hrf : r = f
  · have hcell : cellC ((nnL f t ((15 : Nat) : Int) ((15 : Nat) : Int)) r) ((nnL f t ((96 : Nat) : Int) ((96 + x : Nat) : Int)) r) = cellC 15 ((0 + 96 : Nat) : Int) := by
      subst hrf
      simp [nnL]
    cases hnx with
    | beg h1 h3 =>
      refine w_reso_3 (mv := 0) (x := 0) (by omega) hr64 hcell (xOut_refs W) (vOut_refs W) (vOut_ren W) hβ hr fun a w hr => ?_
      refine w_rowo_3 (x := 0) (rowb_3 (r := r) h3) (xOut_refs W) (vOut_refs W) (vOut_ren W) hβ hr fun a w hr => ?_
      exact w_app_3 (by omega) hβ hr fun a w hr => hq _ a w rfl hr
    | go h1 h2 h3 => exact absurd hrf h1
    | out h1 h2 h3 => exact absurd hrf h1
    | first h1 h2 => omega
    | again h1 h2 h3 h4 => omega
    | last h1 h2 h3 => omega
    | last63 h1 h2 h3 => omega
  by_cases hrt : r = t
  · have hcell : cellC ((nnL f t ((15 : Nat) : Int) ((15 : Nat) : Int)) r) ((nnL f t ((96 : Nat) : Int) ((96 + x : Nat) : Int)) r) = cellC 15 ((x + 96 : Nat) : Int) := by
      rw [Nat.add_comm x 96]
      simp [nnL, hrt, Nat.ne_of_gt hft]
    cases hnx with
    | beg h1 h3 => exact absurd h1 hrf
    | go h1 h2 h3 => exact absurd hrt h2
    | out h1 h2 h3 => exact absurd hrt h2
    | first h1 h2 =>
      refine w_reso_3 (mv := 0) (x := x) (by omega) hr64 hcell (xOut_refs W) (vOut_refs W) (vOut_ren W) hβ hr fun a w hr => ?_
      refine w_rowo_3 (x := x) (rowe0_3 (f := lr) (t := r) (by omega) (by omega) hx1 hx) (xOut_refs W) (vOut_refs W) (vOut_ren W) hβ hr fun a w hr => ?_
      exact w_app_3 (by omega) hβ hr fun a w hr => hq _ a w rfl hr
    | again h1 h2 h3 h4 =>
      refine w_reso_3 (mv := 0) (x := x) (by omega) hr64 hcell (xOut_refs W) (vOut_refs W) (vOut_ren W) hβ hr fun a w hr => ?_
      refine w_rowo_3 (x := x) (rowe2_3 (f := lr) (t := r) (by omega) (by omega) hx1 hx h3 h4) (xOut_refs W) (vOut_refs W) (vOut_ren W) hβ hr fun a w hr => ?_
      exact w_app_3 (by omega) hβ hr fun a w hr => hq _ a w rfl hr
    | last h1 h2 h3 =>
      refine w_reso_3 (mv := 0) (x := x) (by omega) hr64 hcell (xOut_refs W) (vOut_refs W) (vOut_ren W) hβ hr fun a w hr => ?_
      refine w_rowo_3 (x := x) (rowe1_3 (f := lr) (r := r) (by omega) h3 hx1 hx) (xOut_refs W) (vOut_refs W) (vOut_ren W) hβ hr fun a w hr => ?_
      exact w_app_3 (by omega) hβ hr fun a w hr => hq _ a w rfl hr
    | last63 h1 h2 h3 =>
      subst h3
      refine w_reso_3 (mv := 0) (x := x) (by omega) hr64 hcell (xOut_refs W) (vOut_refs W) (vOut_ren W) hβ hr fun a w hr => ?_
      refine w_rowo_3 (x := x) (r := 63) (rowe63_3 (f := lr) (by omega) hx1 hx) (xOut_refs W) (vOut_refs W) (vOut_ren W) hβ hr fun a w hr => ?_
      exact w_app_3 (by omega) hβ hr fun a w hr => hq _ a w rfl hr
  · have hcell : cellC ((nnL f t ((15 : Nat) : Int) ((15 : Nat) : Int)) r) ((nnL f t ((96 : Nat) : Int) ((96 + x : Nat) : Int)) r) = cellC 0 0 := by
      simp [nnL, hrf, hrt]
    cases hnx with
    | beg h1 h3 => exact absurd h1 hrf
    | go h1 h2 h3 =>
      refine w_rese_3 (mv := 0)  hr64 hcell (xOut_refs W) (vOut_refs W) (vOut_ren W) hβ hr fun a w hr => ?_
      refine w_rowe_3 (row_3_lt (r := r) h3) (xOut_refs W) (vOut_refs W) (vOut_ren W) hβ hr fun a w hr => ?_
      exact w_app_3 (by omega) hβ hr fun a w hr => hq _ a w rfl hr
    | out h1 h2 h3 =>
      subst h3
      refine w_rese_3 (mv := 0)  hr64 hcell (xOut_refs W) (vOut_refs W) (vOut_ren W) hβ hr fun a w hr => ?_
      refine w_rowe_3 (r := 63) row_3_63 (xOut_refs W) (vOut_refs W) (vOut_ren W) hβ hr fun a w hr => ?_
      exact w_app_3 (by omega) hβ hr fun a w hr => hq _ a w rfl hr
    | first h1 h2 => exact absurd h1 hrt
    | again h1 h2 h3 h4 => exact absurd h1 hrt
    | last h1 h2 h3 => exact absurd h1 hrt
    | last63 h1 h2 h3 => exact absurd h1 hrt
end
end Go.Ab

set_option linter.unusedVariables false
set_option linter.unusedSimpArgs false
namespace Go.Ab
open Go.Proofs
set_option maxRecDepth 100000

/-! ### order.Walk on the song, one dialect -/
def SL4 (f t x n : Nat) (mv : Int) (r lr lc : Nat) (W : List Nat) : St := ⟨T1 ((n + 1 : Nat) : Int) ++ vOut 16 W :: T2 .dead, hdH 4 true 128 q4 12 mv (r : Int) (lr : Int) (lc : Int) .dead (nnL f t ((29 : Nat) : Int) ((29 : Nat) : Int)) (nnL f t ((176 : Nat) : Int) ((176 + x : Nat) : Int)) (shT opH4) ++ [xOut W]⟩
def ok4 (mv : Int) : Prop := 0 ≤ mv ∧ mv ≤ 255
section
variable {w0 : World} {Pr0 : Nat → Prop} {β0 : Bt}
theorem w_step_4 {f t x n : Nat} (hft : f < t) (ht : t ≤ 63) (hx1 : 1 ≤ x) (hx : x ≤ 15) (hn : n ≤ 1999) (hβ : β0.length ≤ 4) : ∀ (mv : Int) (r lr lc r' lr' lc' : Nat) (W : List Nat), ok4 mv → W.length ≤ n → r < 64 → Nx f t x r lr lc r' lr' lc' → ∀ (Q' : Exit → Act → World → Prop) a w, Rel Tryz.prog w0 Pr0 β0 (SL4 f t x n mv r lr lc W) a w →
      (∀ mv' a' w', ok4 mv' → Rel Tryz.prog w0 Pr0 β0 (SL4 f t x n mv' r' lr' lc' (W ++ [r])) a' w' → Q' .normal a' w') → x6.wp Tryz.prog Q' a w := by
  intro mv r lr lc r' lr' lc' W hm hW hr64 hnx Q' a w hr hq
  
  rw [x6_eq]
  refine wp_seq (w_more hW hr fun a w hr => wp_block (wp_seq ?_))
  by_cases hrf : r = f
  · have hcell : cellC ((nnL f t ((29 : Nat) : Int) ((29 : Nat) : Int)) r) ((nnL f t ((176 : Nat) : Int) ((176 + x : Nat) : Int)) r) = cellC 29 ((0 + 176 : Nat) : Int) := by
      subst hrf
      simp [nnL]
    cases hnx with
    | beg h1 h3 =>
      refine w_reso_4  hm.1 hm.2 (x := 0) (by omega) hr64 hcell (xOut_refs W) (vOut_refs W) (vOut_ren W) hβ hr fun a w hr => ?_
      refine w_rowo_4 (x := 0) (rowb_4 (r := r) h3) (xOut_refs W) (vOut_refs W) (vOut_ren W) hβ hr fun a w hr => ?_
      exact w_app_4 (by omega) hβ hr fun a w hr => hq _ a w ⟨by omega, by omega⟩ hr
    | go h1 h2 h3 => exact absurd hrf h1
    | out h1 h2 h3 => exact absurd hrf h1
    | first h1 h2 => omega
    | again h1 h2 h3 h4 => omega
    | last h1 h2 h3 => omega
    | last63 h1 h2 h3 => omega
  by_cases hrt : r = t
  · have hcell : cellC ((nnL f t ((29 : Nat) : Int) ((29 : Nat) : Int)) r) ((nnL f t ((176 : Nat) : Int) ((176 + x : Nat) : Int)) r) = cellC 29 ((x + 176 : Nat) : Int) := by
      rw [Nat.add_comm x 176]
      simp [nnL, hrt, Nat.ne_of_gt hft]
    cases hnx with
    | beg h1 h3 => exact absurd h1 hrf
    | go h1 h2 h3 => exact absurd hrt h2
    | out h1 h2 h3 => exact absurd hrt h2
    | first h1 h2 =>
      refine w_reso_4  hm.1 hm.2 (x := x) (by omega) hr64 hcell (xOut_refs W) (vOut_refs W) (vOut_ren W) hβ hr fun a w hr => ?_
      refine w_rowo_4 (x := x) (rowe0_4 (f := lr) (t := r) (by omega) (by omega) hx1 hx) (xOut_refs W) (vOut_refs W) (vOut_ren W) hβ hr fun a w hr => ?_
      exact w_app_4 (by omega) hβ hr fun a w hr => hq _ a w ⟨by omega, by omega⟩ hr
    | again h1 h2 h3 h4 =>
      refine w_reso_4  hm.1 hm.2 (x := x) (by omega) hr64 hcell (xOut_refs W) (vOut_refs W) (vOut_ren W) hβ hr fun a w hr => ?_
      refine w_rowo_4 (x := x) (rowe2_4 (f := lr) (t := r) (by omega) (by omega) hx1 hx h3 h4) (xOut_refs W) (vOut_refs W) (vOut_ren W) hβ hr fun a w hr => ?_
      exact w_app_4 (by omega) hβ hr fun a w hr => hq _ a w ⟨by omega, by omega⟩ hr
    | last h1 h2 h3 =>
      refine w_reso_4  hm.1 hm.2 (x := x) (by omega) hr64 hcell (xOut_refs W) (vOut_refs W) (vOut_ren W) hβ hr fun a w hr => ?_
      refine w_rowo_4 (x := x) (rowe1_4 (f := lr) (r := r) (by omega) h3 hx1 hx) (xOut_refs W) (vOut_refs W) (vOut_ren W) hβ hr fun a w hr => ?_
      exact w_app_4 (by omega) hβ hr fun a w hr => hq _ a w ⟨by omega, by omega⟩ hr
    | last63 h1 h2 h3 =>
      subst h3
      refine w_reso_4  hm.1 hm.2 (x := x) (by omega) hr64 hcell (xOut_refs W) (vOut_refs W) (vOut_ren W) hβ hr fun a w hr => ?_
      refine w_rowo_4 (x := x) (r := 63) (rowe63_4 (f := lr) (by omega) hx1 hx) (xOut_refs W) (vOut_refs W) (vOut_ren W) hβ hr fun a w hr => ?_
      exact w_app_4 (by omega) hβ hr fun a w hr => hq _ a w ⟨by omega, by omega⟩ hr
  · have hcell : cellC ((nnL f t ((29 : Nat) : Int) ((29 : Nat) : Int)) r) ((nnL f t ((176 : Nat) : Int) ((176 + x : Nat) : Int)) r) = cellC 0 0 := by
      simp [nnL, hrf, hrt]
    cases hnx with
    | beg h1 h3 => exact absurd h1 hrf
    | go h1 h2 h3 =>
      refine w_rese_4  hm.1 hm.2  hr64 hcell (xOut_refs W) (vOut_refs W) (vOut_ren W) hβ hr fun a w hr => ?_
      refine w_rowe_4 (row_4_lt (r := r) h3) (xOut_refs W) (vOut_refs W) (vOut_ren W) hβ hr fun a w hr => ?_
      exact w_app_4 (by omega) hβ hr fun a w hr => hq _ a w hm hr
    | out h1 h2 h3 =>
      subst h3
      refine w_rese_4  hm.1 hm.2  hr64 hcell (xOut_refs W) (vOut_refs W) (vOut_ren W) hβ hr fun a w hr => ?_
      refine w_rowe_4 (r := 63) row_4_63 (xOut_refs W) (vOut_refs W) (vOut_ren W) hβ hr fun a w hr => ?_
      exact w_app_4 (by omega) hβ hr fun a w hr => hq _ a w hm hr
    | first h1 h2 => exact absurd h1 hrt
    | again h1 h2 h3 h4 => exact absurd h1 hrt
    | last h1 h2 h3 => exact absurd h1 hrt
    | last63 h1 h2 h3 => exact absurd h1 hrt
end
end Go.Ab

set_option linter.unusedVariables false
set_option linter.unusedSimpArgs false
namespace Go.Ab
open Go.Proofs
set_option maxRecDepth 100000

/-! ### order.Walk on the song, one dialect -/
def SL6 (f t x n : Nat) (mv : Int) (r lr lc : Nat) (W : List Nat) : St := ⟨T1 ((n + 1 : Nat) : Int) ++ vOut 14 W :: T2 .dead, hdH 6 false 128 q6 1 mv (r : Int) (lr : Int) (lc : Int) .dead (nnL f t ((15 : Nat) : Int) ((15 : Nat) : Int)) (nnL f t ((96 : Nat) : Int) ((96 + x : Nat) : Int)) (shT opH6) ++ [xOut W]⟩
def ok6 (mv : Int) : Prop := mv = 0
section
variable {w0 : World} {Pr0 : Nat → Prop} {β0 : Bt}
theorem w_step_6 {f t x n : Nat} (hft : f < t) (ht : t ≤ 63) (hx1 : 1 ≤ x) (hx : x ≤ 15) (hn : n ≤ 1999) (hβ : β0.length ≤ 4) : ∀ (mv : Int) (r lr lc r' lr' lc' : Nat) (W : List Nat), ok6 mv → W.length ≤ n → r < 64 → Nx f t x r lr lc r' lr' lc' → ∀ (Q' : Exit → Act → World → Prop) a w, Rel Tryz.prog w0 Pr0 β0 (SL6 f t x n mv r lr lc W) a w →
      (∀ mv' a' w', ok6 mv' → Rel Tryz.prog w0 Pr0 β0 (SL6 f t x n mv' r' lr' lc' (W ++ [r])) a' w' → Q' .normal a' w') → x6.wp Tryz.prog Q' a w := by
  intro mv r lr lc r' lr' lc' W hm hW hr64 hnx Q' a w hr hq
  unfold ok6 at hm
  subst hm
  rw [x6_eq]
  refine wp_seq (w_more hW hr fun a w hr => wp_block (wp_seq ?_))
  by_cases hrf : r = f
  · have hcell : cellC ((nnL f t ((15 : Nat) : Int) ((15 : Nat) : Int)) r) ((nnL f t ((96 : Nat) : Int) ((96 + x : Nat) : Int)) r) = cellC 15 ((0 + 96 : Nat) : Int) := by
      subst hrf
      simp [nnL]
    cases hnx with
    | beg h1 h3 =>
      refine w_reso_6 (mv := 0) (x := 0) (by omega) hr64 hcell (xOut_refs W) (vOut_refs W) (vOut_ren W) hβ hr fun a w hr => ?_
      refine w_rowo_6 (x := 0) (rowb_6 (r := r) h3) (xOut_refs W) (vOut_refs W) (vOut_ren W) hβ hr fun a w hr => ?_
      exact w_app_6 (by omega) hβ hr fun a w hr => hq _ a w rfl hr
    | go h1 h2 h3 => exact absurd hrf h1
    | out h1 h2 h3 => exact absurd hrf h1
    | first h1 h2 => omega
    | again h1 h2 h3 h4 => omega
    | last h1 h2 h3 => omega
    | last63 h1 h2 h3 => omega
  by_cases hrt : r = t
  · have hcell : cellC ((nnL f t ((15 : Nat) : Int) ((15 : Nat) : Int)) r) ((nnL f t ((96 : Nat) : Int) ((96 + x : Nat) : Int)) r) = cellC 15 ((x + 96 : Nat) : Int) := by
      rw [Nat.add_comm x 96]
      simp [nnL, hrt, Nat.ne_of_gt hft]
    cases hnx with
    | beg h1 h3 => exact absurd h1 hrf
    | go h1 h2 h3 => exact absurd hrt h2
    | out h1 h2 h3 => exact absurd hrt h2
    | first h1 h2 =>
      refine w_reso_6 (mv := 0) (x := x) (by omega) hr64 hcell (xOut_refs W) (vOut_refs W) (vOut_ren W) hβ hr fun a w hr => ?_
      refine w_rowo_6 (x := x) (rowe0_6 (f := lr) (t := r) (by omega) (by omega) hx1 hx) (xOut_refs W) (vOut_refs W) (vOut_ren W) hβ hr fun a w hr => ?_
      exact w_app_6 (by omega) hβ hr fun a w hr => hq _ a w rfl hr
    | again h1 h2 h3 h4 =>
      refine w_reso_6 (mv := 0) (x := x) (by omega) hr64 hcell (xOut_refs W) (vOut_refs W) (vOut_ren W) hβ hr fun a w hr => ?_
      refine w_rowo_6 (x := x) (rowe2_6 (f := lr) (t := r) (by omega) (by omega) hx1 hx h3 h4) (xOut_refs W) (vOut_refs W) (vOut_ren W) hβ hr fun a w hr => ?_
      exact w_app_6 (by omega) hβ hr fun a w hr => hq _ a w rfl hr
    | last h1 h2 h3 =>
      refine w_reso_6 (mv := 0) (x := x) (by omega) hr64 hcell (xOut_refs W) (vOut_refs W) (vOut_ren W) hβ hr fun a w hr => ?_
      refine w_rowo_6 (x := x) (rowe1_6 (f := lr) (r := r) (by omega) h3 hx1 hx) (xOut_refs W) (vOut_refs W) (vOut_ren W) hβ hr fun a w hr => ?_
      exact w_app_6 (by omega) hβ hr fun a w hr => hq _ a w rfl hr
    | last63 h1 h2 h3 =>
      subst h3
      refine w_reso_6 (mv := 0) (x := x) (by omega) hr64 hcell (xOut_refs W) (vOut_refs W) (vOut_ren W) hβ hr fun a w hr => ?_
      refine w_rowo_6 (x := x) (r := 63) (rowe63_6 (f := lr) (by omega) hx1 hx) (xOut_refs W) (vOut_refs W) (vOut_ren W) hβ hr fun a w hr => ?_
      exact w_app_6 (by omega) hβ hr fun a w hr => hq _ a w rfl hr
  · have hcell : cellC ((nnL f t ((15 : Nat) : Int) ((15 : Nat) : Int)) r) ((nnL f t ((96 : Nat) : Int) ((96 + x : Nat) : Int)) r) = cellC 0 0 := by
      simp [nnL, hrf, hrt]
    cases hnx with
    | beg h1 h3 => exact absurd h1 hrf
    | go h1 h2 h3 =>
      refine w_rese_6 (mv := 0)  hr64 hcell (xOut_refs W) (vOut_refs W) (vOut_ren W) hβ hr fun a w hr => ?_
      refine w_rowe_6 (row_6_lt (r := r) h3) (xOut_refs W) (vOut_refs W) (vOut_ren W) hβ hr fun a w hr => ?_
      exact w_app_6 (by omega) hβ hr fun a w hr => hq _ a w rfl hr
    | out h1 h2 h3 =>
      subst h3
      refine w_rese_6 (mv := 0)  hr64 hcell (xOut_refs W) (vOut_refs W) (vOut_ren W) hβ hr fun a w hr => ?_
      refine w_rowe_6 (r := 63) row_6_63 (xOut_refs W) (vOut_refs W) (vOut_ren W) hβ hr fun a w hr => ?_
      exact w_app_6 (by omega) hβ hr fun a w hr => hq _ a w rfl hr
    | first h1 h2 => exact absurd h1 hrt
    | again h1 h2 h3 h4 => exact absurd h1 hrt
    | last h1 h2 h3 => exact absurd h1 hrt
    | last63 h1 h2 h3 => exact absurd h1 hrt
end
end Go.Ab
