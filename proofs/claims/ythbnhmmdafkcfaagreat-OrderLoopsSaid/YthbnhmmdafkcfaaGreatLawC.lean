/- The code of orchestrionlaw09.OrderLoops itself, step by step. -/
import Derived.Test.YthbnhmmdafkcfaaGreatLawB
set_option linter.unusedVariables false
set_option linter.unusedSimpArgs false
namespace Go.Ab
open Go.Proofs
set_option maxRecDepth 100000

/-! ### the rows played, against the rows wanted -/
def stepR (r : Nat) : List V := [iv 0, iv 0, iv (r : Int), iv 6, iv 125]
def blkS (l : List Nat) : B := .cells 46 (l.map stepR) false
theorem refs_blkS (l : List Nat) : refsB (blkS l) = [] := by
  unfold blkS refsB
  dsimp only
  induction l with
  | nil => rfl
  | cons q l ih => rw [List.map_cons, List.flatMap_cons, ih]; rfl

noncomputable def k26 : Code := sq1 g26
noncomputable def k27 : Code := sq1 (sq2 g26)
noncomputable def k29 : Code := sq1 (sq2 (sq2 g26))
noncomputable def k35 : Code := sq2 (sq2 (sq2 g26))
noncomputable def x30 : Code := inn (inn (sq2 k29))
theorem g26_eq : g26 = .seq k26 (.seq k27 (.seq k29 k35)) := by kernel_rfl
theorem k29_eq : k29 = .seq (sq1 k29) (.block 8 (.loop x30)) := by kernel_rfl
def HZ (d : Int) (lin : Bool) (pan : Int) (nn pp : Nat → Int) (W : List Nat) : H := AW d lin pan nn pp ++ [blkW W, blkS W]
def TA (n : Nat) : List V := [.dead, .dead, bv false, .dead, .dead, .dead, .ptr 0 0 0, iv 0] ++ List.replicate 4 .dead ++ [.row 5 0 (n + 1) (n + 1)] ++ List.replicate 4 .dead ++ [.row 6 0 (n + 1) (n + 1)] ++ List.replicate 170 .dead
def TZ (n k : Nat) : List V := [.dead, .dead, bv false, .dead, .dead, .dead, .ptr 0 0 0, .dead] ++ List.replicate 4 .dead ++ [.row 5 0 (n + 1) (n + 1)] ++ List.replicate 4 .dead ++ [.row 6 0 (n + 1) (n + 1)] ++ List.replicate 129 .dead ++ [.row 5 0 (n + 1) (n + 1), iv ((n + 1 : Nat) : Int), iv (k : Int)] ++ List.replicate 38 .dead
def ksP : List Nat := [0, 1, 3, 4, 5, 8, 9, 10, 11, 13, 14, 15, 16] ++ (List.range 170).map (· + 18)
def ksZ : List Nat := [7] ++ ((List.range 129).map (· + 18)) ++ (List.range 38).map (· + 150)
def Fp : FuncId → Tmp → Bool := fun K k => K == 3 && [145, 150, 160, 187, 2152, 2153, 2156, 2158, 2164, 2166, 2172, 2174, 2180, 2182].contains k

section
variable {w0 : World} {Pr0 : Nat → Prop} {β0 : Bt}

theorem p_walk {d f t x : Int} {lin : Bool} {pan : Int} {nn pp : Nat → Int} {W : List Nat} {n : Nat} (hn : W.length = n + 1)
    (hW : Callable Tryz.prog 6 ∧ Run Tryz.prog 6 [.agg (songV d lin), iv 0, iv ((n + 1 : Nat) : Int)] (blankH pan (CL nn pp)) (.tup [.row 4 0 (n + 1) (n + 1), iv 0]) (blankH pan (CL nn pp) ++ [blkS W]))
    {a : Act} {w : World} {Q : Exit → Act → World → Prop} (hr : Rel Tryz.prog w0 Pr0 β0 (SW d f t x lin pan nn pp .dead .dead .dead .dead W) a w)
    (hq : ∀ a' w', Rel Tryz.prog w0 Pr0 β0 ⟨TA n, HZ d lin pan nn pp W⟩ a' w' → Q .normal a' w') : k26.wp Tryz.prog Q a w := by
  rw [SW_cons hn] at hr
  refine evV_mask (ex := .normal) follows_mixed X1_sound (cOne_sound hW) (n := 0) (k := 0) (F := fun _ _ => false) (F0 := fun _ => false) (ds := [])
    (rec := [[.agg (songV d lin), iv 0, iv ((n + 1 : Nat) : Int)] = [.agg (songV d lin), iv 0, iv ((n + 1 : Nat) : Int)] ∧ blankH pan (CL nn pp) = blankH pan (CL nn pp)]) (ks := ksP)
    (s' := ⟨TA n, AW d lin pan nn pp ++ [blkW W, renB (outer (AW d lin pan nn pp ++ [blkW W]) [1, 2, 3, 4]) (blkS W)]⟩) (by kernel_rfl) ⟨⟨rfl, rfl⟩, trivial⟩ hr fun a w hr => hq a w ?_
  have hr2 := hr
  rw [renB_id _ _ (by rw [refs_blkS]; intro i hi; cases hi)] at hr2
  exact hr2

theorem p_same {d : Int} {lin : Bool} {pan : Int} {nn pp : Nat → Int} {W : List Nat} {n : Nat} {a : Act} {w : World} {Q : Exit → Act → World → Prop} (hr : Rel Tryz.prog w0 Pr0 β0 ⟨TA n, HZ d lin pan nn pp W⟩ a w)
    (hq : ∀ a' w', Rel Tryz.prog w0 Pr0 β0 ⟨TA n, HZ d lin pan nn pp W⟩ a' w' → Q .normal a' w') : k27.wp Tryz.prog Q a w :=
  evV_mask (ex := .normal) follows_mixed X1_sound cNone_sound (n := 0) (k := 0) (F := Fp) (F0 := Fp 3) (ds := [(bv false, [])]) (rec := [bv (((n + 1 : Nat) : Int) != ((n + 1 : Nat) : Int)) = bv false]) (ks := ksP) (s' := ⟨TA n, HZ d lin pan nn pp W⟩) (by kernel_rfl) ⟨bv_eq (by simp), trivial⟩ hr hq

theorem p_zero {d : Int} {lin : Bool} {pan : Int} {nn pp : Nat → Int} {W : List Nat} {n : Nat} {a : Act} {w : World} {Q : Exit → Act → World → Prop} (hr : Rel Tryz.prog w0 Pr0 β0 ⟨TA n, HZ d lin pan nn pp W⟩ a w)
    (hq : ∀ a' w', Rel Tryz.prog w0 Pr0 β0 ⟨TZ n 0, HZ d lin pan nn pp W⟩ a' w' → Q .normal a' w') : (sq1 k29).wp Tryz.prog Q a w :=
  evV_mask (ex := .normal) follows_mixed X1_sound cNone_sound (n := 0) (k := 0) (F := Fp) (F0 := Fp 3) (ds := []) (rec := []) (ks := ksZ) (s' := ⟨TZ n 0, HZ d lin pan nn pp W⟩) (by kernel_rfl) trivial hr hq

theorem p_round {d : Int} {lin : Bool} {pan : Int} {nn pp : Nat → Int} {W : List Nat} {n k r : Nat} (hn : W.length = n + 1) (hn2 : n ≤ 1999) (hk : k < n + 1) (hW : W[k]? = some r) {a : Act} {w : World} {Q : Exit → Act → World → Prop} (hr : Rel Tryz.prog w0 Pr0 β0 ⟨TZ n k, HZ d lin pan nn pp W⟩ a w)
    (hq : ∀ a' w', Rel Tryz.prog w0 Pr0 β0 ⟨TZ n (k + 1), HZ d lin pan nn pp W⟩ a' w' → Q .normal a' w') : x30.wp Tryz.prog Q a w := by
  have i5 : idxE Tryz.prog 24 (.row 5 0 (n + 1) (n + 1)) (iv (k : Int)) (HZ d lin pan nn pp W) = some (.ptr 5 k 0) := by
    rw [idxE_row (e := 3) (es := W.map fun (q : Nat) => [iv (q : Int)]) (ex := false) (by kernel_rfl) (by kernel_rfl) rfl hk]
    simp
  have i6 : idxE Tryz.prog 42 (.row 6 0 (n + 1) (n + 1)) (iv (k : Int)) (HZ d lin pan nn pp W) = some (.ptr 6 k 0) := by
    rw [idxE_row (e := 46) (es := W.map stepR) (ex := false) (by kernel_rfl) (by kernel_rfl) rfl hk]
    simp
  have l5 : loadE Tryz.prog 3 (.ptr 5 k 0) (HZ d lin pan nn pp W) = some (iv (r : Int)) :=
    loadE_sc (bt := 3) (es := W.map fun (q : Nat) => [iv (q : Int)]) (e := [iv (r : Int)]) (ex := false) (by kernel_rfl) rfl (by rw [List.getElem?_map, hW]; rfl) rfl
  have l6 : ∀ (o : Nat) (v : V), (stepR r)[o]? = some v → loadE Tryz.prog 3 (.ptr 6 k o) (HZ d lin pan nn pp W) = some v := fun o v hv =>
    loadE_sc (bt := 46) (es := W.map stepR) (e := stepR r) (ex := false) (by kernel_rfl) rfl (by rw [List.getElem?_map, hW]; rfl) hv
  exact evV_mask (ex := .normal) follows_mixed X1_sound cNone_sound (n := 0) (k := 0) (F := Fp) (F0 := Fp 3)
    (ds := [(bv true, []), (.ptr 5 k 0, HZ d lin pan nn pp W), (iv (r : Int), HZ d lin pan nn pp W), (.ptr 6 k 0, HZ d lin pan nn pp W), (iv (r : Int), HZ d lin pan nn pp W), (bv false, []), (.ptr 6 k 0, HZ d lin pan nn pp W), (iv 0, HZ d lin pan nn pp W), (.ptr 6 k 0, HZ d lin pan nn pp W), (iv 0, HZ d lin pan nn pp W), (.ptr 6 k 0, HZ d lin pan nn pp W), (iv 6, HZ d lin pan nn pp W), (iv ((k + 1 : Nat) : Int), [])])
    (rec := [iv (IntKind.i64.wrap ((k : Int) + 1)) = iv ((k + 1 : Nat) : Int),
      loadE Tryz.prog 3 (.ptr 6 k 3) (HZ d lin pan nn pp W) = some (iv 6) ∧ HZ d lin pan nn pp W = HZ d lin pan nn pp W, idxE Tryz.prog 42 (.row 6 0 (n + 1) (n + 1)) (iv (k : Int)) (HZ d lin pan nn pp W) = some (.ptr 6 k 0) ∧ HZ d lin pan nn pp W = HZ d lin pan nn pp W,
      loadE Tryz.prog 3 (.ptr 6 k 1) (HZ d lin pan nn pp W) = some (iv 0) ∧ HZ d lin pan nn pp W = HZ d lin pan nn pp W, idxE Tryz.prog 42 (.row 6 0 (n + 1) (n + 1)) (iv (k : Int)) (HZ d lin pan nn pp W) = some (.ptr 6 k 0) ∧ HZ d lin pan nn pp W = HZ d lin pan nn pp W,
      loadE Tryz.prog 3 (.ptr 6 k 0) (HZ d lin pan nn pp W) = some (iv 0) ∧ HZ d lin pan nn pp W = HZ d lin pan nn pp W, idxE Tryz.prog 42 (.row 6 0 (n + 1) (n + 1)) (iv (k : Int)) (HZ d lin pan nn pp W) = some (.ptr 6 k 0) ∧ HZ d lin pan nn pp W = HZ d lin pan nn pp W,
      bv ((r : Int) != (r : Int)) = bv false,
      loadE Tryz.prog 3 (.ptr 6 k 2) (HZ d lin pan nn pp W) = some (iv (r : Int)) ∧ HZ d lin pan nn pp W = HZ d lin pan nn pp W, idxE Tryz.prog 42 (.row 6 0 (n + 1) (n + 1)) (iv (k : Int)) (HZ d lin pan nn pp W) = some (.ptr 6 k 0) ∧ HZ d lin pan nn pp W = HZ d lin pan nn pp W,
      loadE Tryz.prog 3 (.ptr 5 k 0) (HZ d lin pan nn pp W) = some (iv (r : Int)) ∧ HZ d lin pan nn pp W = HZ d lin pan nn pp W, idxE Tryz.prog 24 (.row 5 0 (n + 1) (n + 1)) (iv (k : Int)) (HZ d lin pan nn pp W) = some (.ptr 5 k 0) ∧ HZ d lin pan nn pp W = HZ d lin pan nn pp W,
      bv (decide ((k : Int) < ((n + 1 : Nat) : Int))) = bv true])
    (ks := ksZ) (s' := ⟨TZ n (k + 1), HZ d lin pan nn pp W⟩) (by kernel_rfl)
    ⟨iv_eq (up_eq (by omega)), ⟨l6 3 _ rfl, rfl⟩, ⟨i6, rfl⟩, ⟨l6 1 _ rfl, rfl⟩, ⟨i6, rfl⟩, ⟨l6 0 _ rfl, rfl⟩, ⟨i6, rfl⟩, bv_eq (by simp), ⟨l6 2 _ rfl, rfl⟩, ⟨i6, rfl⟩, ⟨l5, rfl⟩, ⟨i5, rfl⟩, bv_eq (decide_eq_true (by omega)), trivial⟩ hr hq

theorem p_out {d : Int} {lin : Bool} {pan : Int} {nn pp : Nat → Int} {W : List Nat} {n : Nat} {a : Act} {w : World} {Q : Exit → Act → World → Prop} (hr : Rel Tryz.prog w0 Pr0 β0 ⟨TZ n (n + 1), HZ d lin pan nn pp W⟩ a w)
    (hq : ∀ a' w', Rel Tryz.prog w0 Pr0 β0 ⟨TZ n (n + 1), HZ d lin pan nn pp W⟩ a' w' → Q (.exit 8) a' w') : x30.wp Tryz.prog Q a w :=
  evV_mask (ex := .exit 8) follows_mixed X1_sound cNone_sound (n := 0) (k := 0) (F := Fp) (F0 := Fp 3) (ds := [(bv false, [])]) (rec := [bv (decide (((n + 1 : Nat) : Int) < ((n + 1 : Nat) : Int))) = bv false]) (ks := ksZ) (s' := ⟨TZ n (n + 1), HZ d lin pan nn pp W⟩) (by kernel_rfl) ⟨bv_eq (decide_eq_false (by omega)), trivial⟩ hr hq

theorem p_end {d : Int} {lin : Bool} {pan : Int} {nn pp : Nat → Int} {W : List Nat} {n : Nat} {a : Act} {w : World} {Q : Exit → Act → World → Prop} (hr : Rel Tryz.prog w0 Pr0 β0 ⟨TZ n (n + 1), HZ d lin pan nn pp W⟩ a w)
    (hq : ∀ a' w', Rel Tryz.prog w0 Pr0 β0 ⟨(TZ n (n + 1)).set 2 (bv true), HZ d lin pan nn pp W⟩ a' w' → Q .ret a' w') : k35.wp Tryz.prog Q a w :=
  evV_mask (ex := .ret) follows_mixed X1_sound cNone_sound (n := 0) (k := 0) (F := Fp) (F0 := Fp 3) (ds := []) (rec := []) (ks := []) (s' := ⟨(TZ n (n + 1)).set 2 (bv true), HZ d lin pan nn pp W⟩) (by kernel_rfl) trivial hr hq

theorem p_all {d f t x : Int} {lin : Bool} {pan : Int} {nn pp : Nat → Int} {W : List Nat} {n : Nat} (hn : W.length = n + 1) (hn2 : n ≤ 1999)
    (hW : Callable Tryz.prog 6 ∧ Run Tryz.prog 6 [.agg (songV d lin), iv 0, iv ((n + 1 : Nat) : Int)] (blankH pan (CL nn pp)) (.tup [.row 4 0 (n + 1) (n + 1), iv 0]) (blankH pan (CL nn pp) ++ [blkS W]))
    {a : Act} {w : World} {Q : Exit → Act → World → Prop} (hr : Rel Tryz.prog w0 Pr0 β0 (SW d f t x lin pan nn pp .dead .dead .dead .dead W) a w)
    (hq : ∀ a' w', Rel Tryz.prog w0 Pr0 β0 ⟨(TZ n (n + 1)).set 2 (bv true), HZ d lin pan nn pp W⟩ a' w' → Q .ret a' w') : g26.wp Tryz.prog Q a w := by
  rw [g26_eq]
  refine wp_seq (p_walk hn hW hr fun a w hr => ?_)
  refine wp_seq (p_same hr fun a w hr => wp_seq ?_)
  rw [k29_eq]
  refine wp_seq (p_zero hr fun a w hr => ?_)
  refine wp_block (loop_up (S := fun k => ⟨TZ n k, HZ d lin pan nn pp W⟩) (N := n + 1) (q0 := 0) (by omega) hr (fun k _ hk a w hr => ?_) fun a w hr => ?_)
  · obtain ⟨r, hW⟩ : ∃ r, W[k]? = some r := ⟨_, List.getElem?_eq_getElem (by omega)⟩
    exact p_round hn hn2 hk hW hr fun a w hr => hr
  · exact p_out hr fun a w hr => p_end hr hq
end
end Go.Ab

set_option linter.unusedVariables false
set_option linter.unusedSimpArgs false
namespace Go.Ab
open Go.Proofs
set_option maxRecDepth 100000

/-! ### OrderLoops -/
/-- Effect of a dialect that has none of this kind. -/
def cEff (d : Int) : Cnd := fun K args h => if K = 5 then some ((.tup [.agg (List.replicate 6 (iv 0)), bv false], []), [∃ x : Int, args = [iv d, .agg [iv 34, iv x, iv 0]] ∧ h = []]) else none
theorem cEff_sound {d : Int} (hE : ∀ x : Int, Callable Tryz.prog 5 ∧ Run Tryz.prog 5 [iv d, .agg [iv 34, iv x, iv 0]] [] (.tup [.agg (List.replicate 6 (iv 0)), bv false]) []) : CSound Tryz.prog (cEff d) := by
  intro K args h v h' l he hk
  unfold cEff at he
  split at he
  · rename_i hK
    subst hK
    injection he with he
    injection he with e1 e2
    injection e1 with e3 e4
    subst e2 e3 e4
    obtain ⟨⟨x, h1, h2⟩, _⟩ := hk
    subst h1 h2
    exact hE x
  · cases he
def F7 : FuncId → Tmp → Bool := fun K t => K == 7 && [6, 9, 12, 15, 18, 21].contains t

def WalkOk (d n0 base : Nat) : Prop := ∀ (f t x : Nat), f < t → t ≤ 63 → 1 ≤ x → x ≤ 15 → ∀ n, (wantL f t x).length = n + 1 →
  Callable Tryz.prog 6 ∧ Run Tryz.prog 6 [.agg (songV (d : Int) (linOf (d : Int))), iv 0, iv ((n + 1 : Nat) : Int)] (blankH (panOf (d : Int)) (CL (nnL f t (n0 : Int) (n0 : Int)) (nnL f t (base : Int) ((base + x : Nat) : Int))))
    (.tup [.row 4 0 (n + 1) (n + 1), iv 0]) (blankH (panOf (d : Int)) (CL (nnL f t (n0 : Int) (n0 : Int)) (nnL f t (base : Int) ((base + x : Nat) : Int))) ++ [blkS (wantL f t x)])

section
variable {w0 : World} {Pr0 : Nat → Prop} {β0 : Bt}

theorem l_other {d f t x : Int} (h1 : d ≠ 1) (h2 : d ≠ 2) (h3 : d ≠ 3) (h4 : d ≠ 4) (h5 : d ≠ 5) (h6 : d ≠ 6) (hβ : β0.length ≤ 0) {a : Act} {w : World} {Q : Exit → Act → World → Prop} (hr : Rel Tryz.prog w0 Pr0 β0 (SA d f t x) a w)
    (hret : ∀ a' w', Rel Tryz.prog w0 Pr0 β0 SRet a' w' → Q .ret a' w') : (sq2 (sq2 (sq2 b3))).wp Tryz.prog Q a w :=
  evV_coarse (ex := .ret) follows_mixed X1_sound (cEff_sound fun x => effect_other h1 h2 h3 h4 h5 h6) (n := 40) (k := 40) (F := F7) (F0 := F7 3) (ds := [(bv false, []), (bv false, []), (bv false, []), (bv false, []), (bv false, []), (bv false, [])])
    (rec := [∃ y : Int, [iv d, .agg [iv 34, iv x, iv 0]] = [iv d, .agg [iv 34, iv y, iv 0]] ∧ ([] : H) = [], ∃ y : Int, [iv d, .agg [iv 34, iv 0, iv 0]] = [iv d, .agg [iv 34, iv y, iv 0]] ∧ ([] : H) = [], bv (d == 6) = bv false, bv (d == 5) = bv false, bv (d == 4) = bv false, bv (d == 3) = bv false, bv (d == 2) = bv false, bv (d == 1) = bv false])
    (m := 0) (ks := ksT) (p := fun _ _ => true) (s' := SRet) (by kernel_rfl) ⟨⟨x, rfl, rfl⟩, ⟨0, rfl, rfl⟩, bv_eq (eqf h6), bv_eq (eqf h5), bv_eq (eqf h4), bv_eq (eqf h3), bv_eq (eqf h2), bv_eq (eqf h1), trivial⟩ hβ hr hret

theorem l_five {f t x : Int} (hβ : β0.length ≤ 0) {a : Act} {w : World} {Q : Exit → Act → World → Prop} (hr : Rel Tryz.prog w0 Pr0 β0 (SA 5 f t x) a w)
    (hret : ∀ a' w', Rel Tryz.prog w0 Pr0 β0 SRet a' w' → Q .ret a' w') : (sq2 (sq2 (sq2 b3))).wp Tryz.prog Q a w :=
  evV_coarse (ex := .ret) follows_mixed X1_sound (cOr_sound (cEff_sound fun x => effect_5) (cOne_sound blank_5)) (n := 0) (k := 40) (F := fun _ _ => false) (F0 := fun _ => false) (ds := [])
    (rec := [∃ y : Int, [iv 5, .agg [iv 34, iv x, iv 0]] = [iv 5, .agg [iv 34, iv y, iv 0]] ∧ ([] : H) = [], ∃ y : Int, [iv 5, .agg [iv 34, iv 0, iv 0]] = [iv 5, .agg [iv 34, iv y, iv 0]] ∧ ([] : H) = [], [iv 5, iv 1, iv 1] = [iv 5, iv 1, iv 1] ∧ ([] : H) = []])
    (m := 0) (ks := ksT) (p := fun _ _ => true) (s' := SRet) (by kernel_rfl) ⟨⟨x, rfl, rfl⟩, ⟨0, rfl, rfl⟩, ⟨rfl, rfl⟩, trivial⟩ hβ hr hret

theorem g4_eq : sq2 (sq2 (sq2 b3)) = .seq g4 (.seq g5 (.seq g6 (.seq g7 g9))) := by kernel_rfl

theorem l_main {d n0 base : Nat} (hB : Callable Tryz.prog 4 ∧ Run Tryz.prog 4 [iv (d : Int), iv 1, iv 1] [] (.tup [.agg (songV (d : Int) (linOf (d : Int))), iv 0]) (blankH (panOf (d : Int)) cells0))
    (hE : ∀ x : Nat, x ≤ 15 → Callable Tryz.prog 5 ∧ Run Tryz.prog 5 [iv (d : Int), .agg [iv 34, iv (x : Int), iv 0]] [] (.tup [.agg (cellC (n0 : Int) ((base + x : Nat) : Int)), bv true]) [])
    (hW : WalkOk d n0 base) {f t x : Int} (h0 : 0 ≤ f) (h1 : f ≤ t) (h2 : t ≤ 63) (h3 : 1 ≤ x) (h4 : x ≤ 15) (hβ : β0.length ≤ 0) {a : Act} {w : World} {Q : Exit → Act → World → Prop} (hr : Rel Tryz.prog w0 Pr0 β0 (SA (d : Int) f t x) a w)
    (hret : ∀ a' w', Rel Tryz.prog w0 Pr0 β0 SRet a' w' → Q .ret a' w') (hend : ∀ s a' w', ((resE Tryz.prog s [.tmp 2]).bind fun v1 => gcE 0 v1 s.h) = some (bv true, []) → Rel Tryz.prog w0 Pr0 β0 s a' w' → Q .ret a' w') : (sq2 (sq2 (sq2 b3))).wp Tryz.prog Q a w := by
  obtain ⟨f, rfl⟩ := Int.eq_ofNat_of_zero_le h0
  obtain ⟨t, rfl⟩ := Int.eq_ofNat_of_zero_le (show 0 ≤ t by omega)
  obtain ⟨x, rfl⟩ := Int.eq_ofNat_of_zero_le (show 0 ≤ x by omega)
  rw [g4_eq]
  refine wp_seq (l_blank hB hβ hr fun a w hr => wp_seq ?_)
  refine l_begin (hE 0 (by omega)) hβ hr fun a w hr => wp_seq ?_
  refine l_end (hE x (by omega)) hβ hr fun a w hr => wp_seq ?_
  refine l_ask hβ hr hret fun hne a w hr => ?_
  have hft : f < t := by omega
  rw [g9_eq]
  refine wp_seq (l_lay (f := f) (t := t) (by omega) (by omega) (by omega) hβ hr fun a w hr => wp_seq ?_)
  refine evV_coarse (ex := .normal) follows_mixed X1_sound cNone_sound (n := 0) (k := 0) (F := fun _ _ => false) (F0 := fun _ => false) (ds := []) (rec := []) (m := 0) (ks := []) (p := fun _ _ => true)
    (s' := SW (d : Int) (f : Int) (t : Int) (x : Int) (linOf (d : Int)) (panOf (d : Int)) (nnL f t (n0 : Int) (n0 : Int)) (nnL f t ((base + 0 : Nat) : Int) ((base + x : Nat) : Int)) .dead .dead .dead .dead []) (by kernel_rfl) trivial hβ hr fun a w hr => wp_seq ?_
  refine want1 (by omega) hβ hr fun a w hr => wp_seq (want2 (by omega) (by omega) (by omega) hβ hr fun a w hr => wp_seq (want3 (by omega) (by omega) (by omega) hβ hr fun a w hr => ?_))
  have hlen : (wantL f t x).length ≤ 1164 ∧ 1 ≤ (wantL f t x).length := by
    unfold wantL
    rw [List.length_append, loopL_length, List.length_range']
    have : (x + 1) * (t + 1 - f) ≤ 16 * 64 := Nat.mul_le_mul (by omega) (by omega)
    have h5 : 1 * (t + 1 - f) ≤ (x + 1) * (t + 1 - f) := Nat.mul_le_mul (by omega) (by omega)
    omega
  obtain ⟨n, hn⟩ : ∃ n, (wantL f t x).length = n + 1 := ⟨(wantL f t x).length - 1, by omega⟩
  refine p_all hn (by omega) (hW f t x hft (by omega) (by omega) (by omega) n hn) hr fun a w hr => ?_
  exact hend _ a w (by kernel_rfl) hr
end

theorem b3_split : b3 = .seq (sq1 b3) (.seq (sq1 (sq2 b3)) (.seq (sq1 (sq2 (sq2 b3))) (sq2 (sq2 (sq2 b3))))) := by kernel_rfl

theorem law_run (hW1 : WalkOk 1 15 96) (hW2 : WalkOk 2 29 176) (hW3 : WalkOk 3 15 96) (hW4 : WalkOk 4 29 176) (hW6 : WalkOk 6 15 96) (d f t x : Int) : Callable Tryz.prog 3 ∧ Run Tryz.prog 3 [.agg [iv d, iv f, iv t, iv x]] [] (bv true) [] := by
  refine fn_run Tryz.func3 (c := b3) (by kernel_rfl) (by kernel_rfl) fun w0 Pr0 β0 a w Q hβ hr hfin => ?_
  have hβ0 : β0.length ≤ 0 := by simp [hβ]
  rw [b3_split]
  have hr : Rel Tryz.prog w0 Pr0 β0 ⟨[.agg [iv d, iv f, iv t, iv x]] ++ List.replicate 187 uv, []⟩ a w := hr
  refine wp_seq (evC_coarse follows_mixed (callE_sound X1_sound) (n := 0) (ex := .normal) (m := 0) (ks := [0] ++ (List.range 185).map (· + 3)) (p := fun _ _ => true) (s' := ⟨[.dead, .ptr 0 0 0, bv false] ++ List.replicate 185 .dead, (SA d f t x).h⟩) (by kernel_rfl) hβ0 hr fun a w hr => wp_seq ?_)
  refine evC_coarse follows_mixed (callE_sound X1_sound) (n := 0) (ex := .normal) (m := 0) (ks := ksA) (p := fun _ _ => true) (s' := SA d f t x) (by kernel_rfl) hβ0 hr fun a w hr => wp_seq ?_
  have hret : ∀ a' w', Rel Tryz.prog w0 Pr0 β0 SRet a' w' → Q .ret a' w' := fun a' w' hr' => hfin .ret _ a' w' (by simp) (by kernel_rfl) hr'
  have hend : ∀ s a' w', ((resE Tryz.prog s [.tmp 2]).bind fun v1 => gcE 0 v1 s.h) = some (bv true, []) → Rel Tryz.prog w0 Pr0 β0 s a' w' → Q .ret a' w' := fun s a' w' he hr' => hfin .ret s a' w' (by simp) he hr'
  refine l_range hβ0 hr hret fun h0 h1 h2 h3 h4 a w hr => ?_
  by_cases e1 : d = 1
  · subst e1; exact l_main (d := 1) blank_1 (fun x hx => effect_1 hx) hW1 h0 h1 h2 h3 h4 hβ0 hr hret hend
  by_cases e2 : d = 2
  · subst e2; exact l_main (d := 2) blank_2 (fun x hx => effect_2 hx) hW2 h0 h1 h2 h3 h4 hβ0 hr hret hend
  by_cases e3 : d = 3
  · subst e3; exact l_main (d := 3) blank_3 (fun x hx => effect_3 hx) hW3 h0 h1 h2 h3 h4 hβ0 hr hret hend
  by_cases e4 : d = 4
  · subst e4; exact l_main (d := 4) blank_4 (fun x hx => effect_4 hx) hW4 h0 h1 h2 h3 h4 hβ0 hr hret hend
  by_cases e5 : d = 5
  · subst e5; exact l_five hβ0 hr hret
  by_cases e6 : d = 6
  · subst e6; exact l_main (d := 6) blank_6 (fun x hx => effect_6 hx) hW6 h0 h1 h2 h3 h4 hβ0 hr hret hend
  exact l_other e1 e2 e3 e4 e5 e6 hβ0 hr hret

end Go.Ab
