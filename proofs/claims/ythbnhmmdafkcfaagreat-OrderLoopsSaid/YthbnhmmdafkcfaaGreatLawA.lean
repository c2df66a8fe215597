/- The code of orchestrionlaw09.OrderLoops itself, step by step. -/
import Derived.Test.YthbnhmmdafkcfaaGreatFnF
namespace Go.Ab
open Go.Proofs
set_option maxRecDepth 100000
/-! ### OrderLoops: up to its pattern -/
def FL : FuncId → Tmp → Bool := fun K t => match K with
  | 3 => [27, 31, 35, 39, 43, 79].contains t
  | _ => false
noncomputable def b3 : Code := Tryz.f3.body.getD .skip
theorem b3_eq : b3 = .seq (sq1 b3) (.seq (sq1 (sq2 b3)) (.seq (sq1 (sq2 (sq2 b3))) (.seq (sq1 (sq2 (sq2 (sq2 b3)))) (.seq (sq1 (sq2 (sq2 (sq2 (sq2 b3))))) (.seq (sq1 (sq2 (sq2 (sq2 (sq2 (sq2 b3)))))) (.seq (sq1 (sq2 (sq2 (sq2 (sq2 (sq2 (sq2 b3))))))) (sq2 (sq2 (sq2 (sq2 (sq2 (sq2 (sq2 b3))))))))))))) := by kernel_rfl
def SA (d f t x : Int) : St := ⟨[.dead, .ptr 0 0 0, bv false, iv f, iv t, iv x] ++ List.replicate 182 .dead, [.cells 23 [[iv d, iv f, iv t, iv x]] true]⟩
def SRet : St := ⟨[.dead, .dead, bv true] ++ List.replicate 185 .dead, []⟩
def ksA : List Nat := [0] ++ (List.range 182).map (· + 6)
def ksT : List Nat := [0, 1] ++ (List.range 185).map (· + 3)

section
variable {w0 : World} {Pr0 : Nat → Prop} {β0 : Bt}
theorem l_start {d f t x : Int} (hβ : β0.length ≤ 0) {a : Act} {w : World} {Q : Exit → Act → World → Prop} (hr : Rel Tryz.prog w0 Pr0 β0 ⟨[.agg [iv d, iv f, iv t, iv x]] ++ List.replicate 187 uv, []⟩ a w)
    (hq : ∀ a' w', Rel Tryz.prog w0 Pr0 β0 (SA d f t x) a' w' → Q .normal a' w') : (Code.seq (sq1 b3) (sq1 (sq2 b3))).wp Tryz.prog Q a w :=
  evD_coarse (ex := .normal) follows_mixed X1_sound (n := 0) (k := 0) (F := FL) (F0 := FL 3) (ds := []) (rec := []) (m := 0) (ks := ksA) (p := fun _ _ => true) (s' := SA d f t x) (by kernel_rfl) trivial hβ hr hq

theorem l_range {d f t x : Int} (hβ : β0.length ≤ 0) {a : Act} {w : World} {Q : Exit → Act → World → Prop} (hr : Rel Tryz.prog w0 Pr0 β0 (SA d f t x) a w)
    (hret : ∀ a' w', Rel Tryz.prog w0 Pr0 β0 SRet a' w' → Q .ret a' w') (hq : 0 ≤ f → f ≤ t → t ≤ 63 → 1 ≤ x → x ≤ 15 → ∀ a' w', Rel Tryz.prog w0 Pr0 β0 (SA d f t x) a' w' → Q .normal a' w') : (sq1 (sq2 (sq2 b3))).wp Tryz.prog Q a w := by
  cases h0 : decide (f < 0) with
  | true => exact evD_coarse (ex := .ret) follows_mixed X1_sound (n := 0) (k := 0) (F := FL) (F0 := FL 3) (ds := [vb true]) (rec := [(vb (decide (f < 0)), vb true)]) (m := 0) (ks := ksT) (p := fun _ _ => true) (s' := SRet) (by kernel_rfl) ⟨vb_eq h0, trivial⟩ hβ hr hret
  | false =>
    cases h1 : decide (t < f) with
    | true => exact evD_coarse (ex := .ret) follows_mixed X1_sound (n := 0) (k := 0) (F := FL) (F0 := FL 3) (ds := [vb false, vb true]) (rec := [(vb (decide (t < f)), vb true), (vb (decide (f < 0)), vb false)]) (m := 0) (ks := ksT) (p := fun _ _ => true) (s' := SRet) (by kernel_rfl) ⟨vb_eq h1, vb_eq h0, trivial⟩ hβ hr hret
    | false =>
      cases h2 : decide (t > 63) with
      | true => exact evD_coarse (ex := .ret) follows_mixed X1_sound (n := 0) (k := 0) (F := FL) (F0 := FL 3) (ds := [vb false, vb false, vb true]) (rec := [(vb (decide (t > 63)), vb true), (vb (decide (t < f)), vb false), (vb (decide (f < 0)), vb false)]) (m := 0) (ks := ksT) (p := fun _ _ => true) (s' := SRet) (by kernel_rfl) ⟨vb_eq h2, vb_eq h1, vb_eq h0, trivial⟩ hβ hr hret
      | false =>
        cases h3 : decide (x < 1) with
        | true => exact evD_coarse (ex := .ret) follows_mixed X1_sound (n := 0) (k := 0) (F := FL) (F0 := FL 3) (ds := [vb false, vb false, vb false, vb true]) (rec := [(vb (decide (x < 1)), vb true), (vb (decide (t > 63)), vb false), (vb (decide (t < f)), vb false), (vb (decide (f < 0)), vb false)]) (m := 0) (ks := ksT) (p := fun _ _ => true) (s' := SRet) (by kernel_rfl) ⟨vb_eq h3, vb_eq h2, vb_eq h1, vb_eq h0, trivial⟩ hβ hr hret
        | false =>
          cases h4 : decide (x > 15) with
          | true => exact evD_coarse (ex := .ret) follows_mixed X1_sound (n := 0) (k := 0) (F := FL) (F0 := FL 3) (ds := [vb false, vb false, vb false, vb false, vb true]) (rec := [(vb (decide (x > 15)), vb true), (vb (decide (x < 1)), vb false), (vb (decide (t > 63)), vb false), (vb (decide (t < f)), vb false), (vb (decide (f < 0)), vb false)]) (m := 0) (ks := ksT) (p := fun _ _ => true) (s' := SRet) (by kernel_rfl) ⟨vb_eq h4, vb_eq h3, vb_eq h2, vb_eq h1, vb_eq h0, trivial⟩ hβ hr hret
          | false =>
            have e0 := of_decide_eq_false h0; have e1 := of_decide_eq_false h1; have e2 := of_decide_eq_false h2; have e3 := of_decide_eq_false h3; have e4 := of_decide_eq_false h4
            exact evD_coarse (ex := .normal) follows_mixed X1_sound (n := 0) (k := 0) (F := FL) (F0 := FL 3) (ds := [vb false, vb false, vb false, vb false, vb false]) (rec := [(vb (decide (x > 15)), vb false), (vb (decide (x < 1)), vb false), (vb (decide (t > 63)), vb false), (vb (decide (t < f)), vb false), (vb (decide (f < 0)), vb false)]) (m := 0) (ks := ksA) (p := fun _ _ => true) (s' := SA d f t x) (by kernel_rfl) ⟨vb_eq h4, vb_eq h3, vb_eq h2, vb_eq h1, vb_eq h0, trivial⟩ hβ hr (hq (by omega) (by omega) (by omega) (by omega) (by omega))

end
end Go.Ab

set_option linter.unusedVariables false
set_option linter.unusedSimpArgs false
namespace Go.Ab
open Go.Proofs
set_option maxRecDepth 100000

def songC (d : Int) (lin : Bool) (k : Nat) : List V := [sv ⟨#[]⟩, iv d, iv 1, .row k 0 1 1, iv 0, iv 6, iv 125, iv 128, bv lin, .row (k + 1) 0 1 1, .row (k + 2) 0 1 1, sc (.slice none 0 0), sc (.slice none 0 0)]
def restH (pan : Int) (k : Nat) (cs : List (List V)) : H := [.cells 3 [[iv 0]] false, .cells 3 [[iv pan]] false, .cells 41 [[iv 64, .row (k + 3) 0 64 64]] false, .cells 34 cs true]
def SB (d f t x : Int) (lin : Bool) (pan : Int) : St := ⟨[.dead, .ptr 0 0 0, bv false, iv f, iv t, iv x, .ptr 1 0 0, iv 0] ++ List.replicate 180 .dead, [.cells 23 [[iv d, iv f, iv t, iv x]] true, .cells 29 [songC d lin 2] true] ++ restH pan 2 cells0⟩
def cellC (n p : Int) : List V := [iv 0, iv 0, iv 0, iv 0, iv n, iv p]
def SC (d f t x : Int) (lin : Bool) (pan n1 p1 : Int) (b1 : Bool) : St := ⟨[.dead, .ptr 0 0 0, bv false, iv f, iv t, iv x, .ptr 1 0 0, iv 0, .ptr 2 0 0, bv b1] ++ List.replicate 178 .dead, [.cells 23 [[iv d, iv f, iv t, iv x]] true, .cells 29 [songC d lin 3] true, .cells 34 [cellC n1 p1] true] ++ restH pan 3 cells0⟩
def SD (d f t x : Int) (lin : Bool) (pan n1 p1 : Int) (b1 : Bool) (n2 p2 : Int) (b2 : Bool) : St := ⟨[.dead, .dead, bv false, iv f, iv t, iv x, .ptr 0 0 0, iv 0, .ptr 1 0 0, bv b1, .ptr 2 0 0, bv b2] ++ List.replicate 176 .dead, [.cells 29 [songC d lin 3] true, .cells 34 [cellC n1 p1] true, .cells 34 [cellC n2 p2] true] ++ restH pan 3 cells0⟩
def SE (d f t x : Int) (lin : Bool) (pan n1 p1 n2 p2 : Int) : St := ⟨[.dead, .dead, bv false, iv f, iv t, iv x, .ptr 0 0 0, .dead, .ptr 1 0 0, .dead, .ptr 2 0 0] ++ List.replicate 177 .dead, [.cells 29 [songC d lin 3] true, .cells 34 [cellC n1 p1] true, .cells 34 [cellC n2 p2] true] ++ restH pan 3 cells0⟩
noncomputable def g4 : Code := sq1 (sq2 (sq2 (sq2 b3)))
noncomputable def g5 : Code := sq1 (sq2 (sq2 (sq2 (sq2 b3))))
noncomputable def g6 : Code := sq1 (sq2 (sq2 (sq2 (sq2 (sq2 b3)))))
noncomputable def g7 : Code := sq1 (sq2 (sq2 (sq2 (sq2 (sq2 (sq2 b3))))))
noncomputable def g9 : Code := sq2 (sq2 (sq2 (sq2 (sq2 (sq2 (sq2 b3))))))

section
variable {w0 : World} {Pr0 : Nat → Prop} {β0 : Bt}

theorem l_blank {d f t x : Int} {lin : Bool} {pan : Int} (hB : Callable Tryz.prog 4 ∧ Run Tryz.prog 4 [iv d, iv 1, iv 1] [] (.tup [.agg (songV d lin), iv 0]) (blankH pan cells0)) (hβ : β0.length ≤ 0) {a : Act} {w : World} {Q : Exit → Act → World → Prop} (hr : Rel Tryz.prog w0 Pr0 β0 (SA d f t x) a w)
    (hq : ∀ a' w', Rel Tryz.prog w0 Pr0 β0 (SB d f t x lin pan) a' w' → Q .normal a' w') : g4.wp Tryz.prog Q a w :=
  evV_coarse (ex := .normal) follows_mixed X1_sound (cOne_sound hB) (n := 0) (k := 0) (F := FL) (F0 := FL 3) (ds := []) (rec := [[iv d, iv 1, iv 1] = [iv d, iv 1, iv 1] ∧ ([] : H) = []]) (m := 0) (ks := [0] ++ (List.range 180).map (· + 8)) (p := fun _ _ => true) (s' := SB d f t x lin pan) (by kernel_rfl) ⟨⟨rfl, rfl⟩, trivial⟩ hβ hr hq

theorem l_begin {d f t x : Int} {lin : Bool} {pan n1 p1 : Int} {b1 : Bool} (hE : Callable Tryz.prog 5 ∧ Run Tryz.prog 5 [iv d, .agg [iv 34, iv 0, iv 0]] [] (.tup [.agg (cellC n1 p1), bv b1]) []) (hβ : β0.length ≤ 0) {a : Act} {w : World} {Q : Exit → Act → World → Prop} (hr : Rel Tryz.prog w0 Pr0 β0 (SB d f t x lin pan) a w)
    (hq : ∀ a' w', Rel Tryz.prog w0 Pr0 β0 (SC d f t x lin pan n1 p1 b1) a' w' → Q .normal a' w') : g5.wp Tryz.prog Q a w :=
  evV_coarse (ex := .normal) follows_mixed X1_sound (cOne_sound hE) (n := 0) (k := 0) (F := FL) (F0 := FL 3) (ds := []) (rec := [[iv d, .agg [iv 34, iv 0, iv 0]] = [iv d, .agg [iv 34, iv 0, iv 0]] ∧ ([] : H) = []]) (m := 0) (ks := [0] ++ (List.range 178).map (· + 10)) (p := fun _ _ => true) (s' := SC d f t x lin pan n1 p1 b1) (by kernel_rfl) ⟨⟨rfl, rfl⟩, trivial⟩ hβ hr hq

theorem l_end {d f t x : Int} {lin : Bool} {pan n1 p1 n2 p2 : Int} {b1 b2 : Bool} (hE : Callable Tryz.prog 5 ∧ Run Tryz.prog 5 [iv d, .agg [iv 34, iv x, iv 0]] [] (.tup [.agg (cellC n2 p2), bv b2]) []) (hβ : β0.length ≤ 0) {a : Act} {w : World} {Q : Exit → Act → World → Prop} (hr : Rel Tryz.prog w0 Pr0 β0 (SC d f t x lin pan n1 p1 b1) a w)
    (hq : ∀ a' w', Rel Tryz.prog w0 Pr0 β0 (SD d f t x lin pan n1 p1 b1 n2 p2 b2) a' w' → Q .normal a' w') : g6.wp Tryz.prog Q a w :=
  evV_coarse (ex := .normal) follows_mixed X1_sound (cOne_sound hE) (n := 0) (k := 0) (F := FL) (F0 := FL 3) (ds := []) (rec := [[iv d, .agg [iv 34, iv x, iv 0]] = [iv d, .agg [iv 34, iv x, iv 0]] ∧ ([] : H) = []]) (m := 0) (ks := [0, 1] ++ (List.range 176).map (· + 12)) (p := fun _ _ => true) (s' := SD d f t x lin pan n1 p1 b1 n2 p2 b2) (by kernel_rfl) ⟨⟨rfl, rfl⟩, trivial⟩ hβ hr hq

theorem l_ask {d f t x : Int} {lin : Bool} {pan n1 p1 n2 p2 : Int} (hβ : β0.length ≤ 0) {a : Act} {w : World} {Q : Exit → Act → World → Prop} (hr : Rel Tryz.prog w0 Pr0 β0 (SD d f t x lin pan n1 p1 true n2 p2 true) a w)
    (hret : ∀ a' w', Rel Tryz.prog w0 Pr0 β0 SRet a' w' → Q .ret a' w') (hq : f ≠ t → ∀ a' w', Rel Tryz.prog w0 Pr0 β0 (SE d f t x lin pan n1 p1 n2 p2) a' w' → Q .normal a' w') : g7.wp Tryz.prog Q a w := by
  cases h0 : (f == t) with
  | true => exact evD_coarse (ex := .ret) follows_mixed X1_sound (n := 0) (k := 0) (F := FL) (F0 := FL 3) (ds := [vb true]) (rec := [(vb (f == t), vb true)]) (m := 0) (ks := ksT) (p := fun _ _ => true) (s' := SRet) (by kernel_rfl) ⟨vb_eq h0, trivial⟩ hβ hr hret
  | false => exact evD_coarse (ex := .normal) follows_mixed X1_sound (n := 0) (k := 0) (F := FL) (F0 := FL 3) (ds := [vb false]) (rec := [(vb (f == t), vb false)]) (m := 0) (ks := [0, 1, 7, 9] ++ (List.range 177).map (· + 11)) (p := fun _ _ => true) (s' := SE d f t x lin pan n1 p1 n2 p2) (by kernel_rfl) ⟨vb_eq h0, trivial⟩ hβ hr (hq (by simpa using h0))

/-- Where there is no such effect. -/
theorem l_askno {d f t x : Int} {lin : Bool} {pan n1 p1 n2 p2 : Int} {b2 : Bool} (hβ : β0.length ≤ 0) {a : Act} {w : World} {Q : Exit → Act → World → Prop} (hr : Rel Tryz.prog w0 Pr0 β0 (SD d f t x lin pan n1 p1 false n2 p2 b2) a w)
    (hret : ∀ a' w', Rel Tryz.prog w0 Pr0 β0 SRet a' w' → Q .ret a' w') : g7.wp Tryz.prog Q a w :=
  evD_coarse (ex := .ret) follows_mixed X1_sound (n := 0) (k := 0) (F := FL) (F0 := FL 3) (ds := []) (rec := []) (m := 0) (ks := ksT) (p := fun _ _ => true) (s' := SRet) (by kernel_rfl) trivial hβ hr hret
end
end Go.Ab

set_option linter.unusedVariables false
set_option linter.unusedSimpArgs false
namespace Go.Ab
open Go.Proofs
set_option maxRecDepth 100000

theorem idxE_row {P : Program} {t e : TypeId} {b j m c n : Nat} {h : H} {es : List (List V)} {ex : Bool} (h1 : (tyI P t).map (·.d) = some (.slice e)) (h2 : (tyI P e).isSome = true) (hb : getB h b = some (e, es, ex)) (hn : n < m) :
    idxE P t (.row b j m c) (iv (n : Int)) h = some (.ptr b (j + n) 0) := by
  cases ht : tyI P t with
  | none => rw [ht] at h1; cases h1
  | some ti =>
    rw [ht] at h1
    simp only [Option.map_some, Option.some.injEq] at h1
    cases he : tyI P e with
    | none => rw [he] at h2; cases h2
    | some te =>
      simp only [idxE, asI, Option.bind_some, ht, h1, he, hb]
      rw [if_pos ⟨trivial, by omega, by omega⟩]
      simp

theorem loadE_ptr {P : Program} {t : TypeId} {i j : Nat} {h : H} {bt : TypeId} {es : List (List V)} {e : List V} {ex : Bool} (h1 : (tyI P t).map (fun x => (x.d.agg, x.size)) = some (true, e.length)) (hb : getB h i = some (bt, es, ex)) (he : es[j]? = some e) :
    loadE P t (.ptr i j 0) h = some (.agg e) := by
  cases ht : tyI P t with
  | none => rw [ht] at h1; cases h1
  | some ti =>
    rw [ht] at h1
    simp only [Option.map_some, Option.some.injEq, Prod.mk.injEq] at h1
    simp only [loadE, ht, Option.bind_some, hb, he, partV, h1.1, h1.2, if_true]
    rw [if_pos (by omega)]
    simp

theorem loadE_sc {P : Program} {t : TypeId} {i j o : Nat} {h : H} {bt : TypeId} {es : List (List V)} {e : List V} {v : V} {ex : Bool} (h1 : (tyI P t).map (fun x => x.d.agg) = some false) (hb : getB h i = some (bt, es, ex)) (he : es[j]? = some e) (hv : e[o]? = some v) :
    loadE P t (.ptr i j o) h = some v := by
  cases ht : tyI P t with
  | none => rw [ht] at h1; cases h1
  | some ti =>
    rw [ht] at h1
    simp only [Option.map_some, Option.some.injEq] at h1
    simp only [loadE, ht, Option.bind_some, hb, he, partV, h1, hv, Bool.false_eq_true, if_false]

theorem storeE_ptr {P : Program} {t : TypeId} {i j : Nat} {h : H} {bt : TypeId} {es : List (List V)} {e cs : List V} {ex : Bool} (h1 : (tyI P t).map (·.size) = some cs.length) (hb : getB h i = some (bt, es, ex)) (he : es[j]? = some e) (hl : e.length = cs.length) (ho : cs.all V.one = true) :
    storeE P t (.ptr i j 0) (.agg cs) h = some (h.set i (.cells bt (es.set j (setL e 0 cs)) ex)) := by
  cases ht : tyI P t with
  | none => rw [ht] at h1; cases h1
  | some ti =>
    rw [ht] at h1
    simp only [Option.map_some, Option.some.injEq] at h1
    simp only [storeE, Option.bind_some, ht, hb, he]
    exact if_pos ⟨h1.symm, by show 0 + cs.length ≤ e.length; omega, ho⟩

/-! ### the pattern with its loop -/
def nnL (f t : Nat) (n1 n2 : Int) (i : Nat) : Int := if i = f then n1 else if i = t then n2 else 0
def CL (nn pp : Nat → Int) : List (List V) := (List.range 64).map fun i => cellC (nn i) (pp i)
def SF (d f t x : Int) (lin : Bool) (pan : Int) (nn pp : Nat → Int) : St := ⟨[.dead, .dead, bv false, iv f, iv t, iv x, .ptr 0 0 0] ++ List.replicate 181 .dead, [.cells 29 [songC d lin 1] true] ++ restH pan 1 (CL nn pp)⟩
def FM : FuncId → Tmp → Bool := fun K t => match K with
  | 3 => [2095, 2096].contains t
  | _ => false
def seH (d : Int) (lin : Bool) (pan n1 p1 n2 p2 : Int) (cs : List (List V)) : H := [.cells 29 [songC d lin 3] true, .cells 34 [cellC n1 p1] true, .cells 34 [cellC n2 p2] true] ++ restH pan 3 cs

theorem setL_full (e c0 c1 c2 c3 c4 c5 : V) (l : List V) (h : l.length = 6) : setL l 0 [c0, c1, c2, c3, c4, c5] = [c0, c1, c2, c3, c4, c5] := by
  match l, h with
  | [a0, a1, a2, a3, a4, a5], _ => rfl

theorem cells0_get {i : Nat} (h : i < 64) : cells0[i]? = some (List.replicate 6 (iv 0)) := by
  unfold cells0
  rw [List.getElem?_replicate]
  exact if_pos h
theorem cells0_none {i : Nat} (h : ¬ i < 64) : cells0[i]? = none := by
  unfold cells0
  rw [List.getElem?_replicate]
  exact if_neg h
theorem cells0_len : cells0.length = 64 := List.length_replicate

theorem cl_set {f t : Nat} {n1 p1 n2 p2 : Int} (hf : f < 64) (ht : t < 64) (hne : f ≠ t) : (cells0.set f (cellC n1 p1)).set t (cellC n2 p2) = CL (nnL f t n1 n2) (nnL f t p1 p2) := by
  apply List.ext_getElem?
  intro i
  by_cases h : i < 64
  · by_cases h1 : i = t
    · subst h1
      rw [List.getElem?_set_self (by rw [List.length_set, cells0_len]; exact h)]
      simp [CL, h, nnL, Ne.symm hne]
    · rw [List.getElem?_set_ne (Ne.symm h1)]
      by_cases h2 : i = f
      · subst h2
        rw [List.getElem?_set_self (by rw [cells0_len]; exact h)]
        simp [CL, h, nnL]
      · rw [List.getElem?_set_ne (Ne.symm h2)]
        rw [show (CL (nnL f t n1 n2) (nnL f t p1 p2))[i]? = some (cellC 0 0) by simp [CL, h, nnL, h1, h2], cells0_get h]
        rfl
  · rw [List.getElem?_eq_none (by rw [List.length_set, List.length_set, cells0_len]; omega), List.getElem?_eq_none (by simp [CL]; omega)]

section
variable {w0 : World} {Pr0 : Nat → Prop} {β0 : Bt}

theorem l_lay {d x : Int} {f t : Nat} {lin : Bool} {pan n1 p1 n2 p2 : Int} (hf : f < 64) (ht : t < 64) (hne : f ≠ t) (hβ : β0.length ≤ 0) {a : Act} {w : World} {Q : Exit → Act → World → Prop} (hr : Rel Tryz.prog w0 Pr0 β0 (SE d f t x lin pan n1 p1 n2 p2) a w)
    (hq : ∀ a' w', Rel Tryz.prog w0 Pr0 β0 (SF d f t x lin pan (nnL f t n1 n2) (nnL f t p1 p2)) a' w' → Q .normal a' w') : (sq1 g9).wp Tryz.prog Q a w := by
  have e0 := cells0_get hf
  have e1 : (cells0.set f (cellC n1 p1))[t]? = some (List.replicate 6 (iv 0)) := by
    rw [List.getElem?_set_ne hne]
    exact cells0_get ht
  refine evV_coarse (ex := .normal) follows_mixed X1_sound cNone_sound (n := 0) (k := 0) (F := FM) (F0 := FM 3)
    (ds := [(.ptr 6 f 0, seH d lin pan n1 p1 n2 p2 cells0), (uv, seH d lin pan n1 p1 n2 p2 (cells0.set f (cellC n1 p1))), (.ptr 6 t 0, seH d lin pan n1 p1 n2 p2 (cells0.set f (cellC n1 p1))), (uv, seH d lin pan n1 p1 n2 p2 (CL (nnL f t n1 n2) (nnL f t p1 p2)))])
    (rec := [storeE Tryz.prog 34 (.ptr 6 t 0) (.agg (cellC n2 p2)) (seH d lin pan n1 p1 n2 p2 (cells0.set f (cellC n1 p1))) = some (seH d lin pan n1 p1 n2 p2 (CL (nnL f t n1 n2) (nnL f t p1 p2))) ∧ uv = uv,
      idxE Tryz.prog 39 (.row 6 0 64 64) (iv (t : Int)) (seH d lin pan n1 p1 n2 p2 (cells0.set f (cellC n1 p1))) = some (.ptr 6 t 0) ∧ seH d lin pan n1 p1 n2 p2 (cells0.set f (cellC n1 p1)) = seH d lin pan n1 p1 n2 p2 (cells0.set f (cellC n1 p1)),
      storeE Tryz.prog 34 (.ptr 6 f 0) (.agg (cellC n1 p1)) (seH d lin pan n1 p1 n2 p2 cells0) = some (seH d lin pan n1 p1 n2 p2 (cells0.set f (cellC n1 p1))) ∧ uv = uv,
      idxE Tryz.prog 39 (.row 6 0 64 64) (iv (f : Int)) (seH d lin pan n1 p1 n2 p2 cells0) = some (.ptr 6 f 0) ∧ seH d lin pan n1 p1 n2 p2 cells0 = seH d lin pan n1 p1 n2 p2 cells0])
    (m := 0) (ks := [0, 1] ++ (List.range 181).map (· + 7)) (p := fun _ _ => true) (s' := SF d f t x lin pan (nnL f t n1 n2) (nnL f t p1 p2)) (by kernel_rfl) ⟨⟨?_, rfl⟩, ⟨?_, rfl⟩, ⟨?_, rfl⟩, ⟨?_, rfl⟩, trivial⟩ hβ hr hq
  · rw [storeE_ptr (cs := cellC n2 p2) (bt := 34) (es := cells0.set f (cellC n1 p1)) (e := List.replicate 6 (iv 0)) (ex := true) (by kernel_rfl) rfl e1 rfl rfl, ← cl_set hf ht hne]
    rfl
  · rw [idxE_row (e := 34) (es := cells0.set f (cellC n1 p1)) (ex := true) (by kernel_rfl) (by kernel_rfl) rfl ht]
    simp
  · rw [storeE_ptr (cs := cellC n1 p1) (bt := 34) (es := cells0) (e := List.replicate 6 (iv 0)) (ex := true) (by kernel_rfl) rfl e0 rfl rfl]
    rfl
  · rw [idxE_row (e := 34) (es := cells0) (ex := true) (by kernel_rfl) (by kernel_rfl) rfl hf]
    simp
end
end Go.Ab
