/- The code of orchestrionlaw09.OrderLoops itself, step by step. -/
import Derived.Test.YthbnhmmdafkcfaaGreatLawA
import Derived.Test.YthbnhmmdafkcfaaGreatEngH
set_option linter.unusedVariables false
set_option linter.unusedSimpArgs false
namespace Go.Ab
open Go.Proofs
set_option maxRecDepth 100000

/-! ### the rows wanted -/
theorem appE_row {P : Program} {t e : TypeId} {b n : Nat} {h : H} {es : List (List V)} {ys : List (List V)} {x : V} {ex : Bool} {sz by_ : Nat} (h1 : (tyI P t).map (·.d) = some (.slice e)) (h2 : (tyI P e).map (fun te => (te.size, te.bytes, decide (te.zero.length = te.size))) = some (sz, by_, true)) (hsz : 0 < sz) (hx : elemsE h x = some ys) (hys : (ys.all fun y => y.length == sz && y.all V.one) = true) (hpos : 0 < ys.length)
    (hb : getB h b = some (e, es, ex)) (hn : es.length = n) (hb1 : (n + ys.length) * by_ ≤ 140737488355328) (hb2 : n + ys.length ≤ 9223372036854775807) :
    appE P t t (.row b 0 n n) x h = some (.row h.length 0 (n + ys.length) (n + ys.length), h.set b .gone ++ [.cells e (es ++ ys) false]) := by
  cases ht : tyI P t with
  | none => rw [ht] at h1; cases h1
  | some ti =>
    rw [ht] at h1
    simp only [Option.map_some, Option.some.injEq] at h1
    cases he : tyI P e with
    | none => rw [he] at h2; cases h2
    | some te =>
      rw [he] at h2
      simp only [Option.map_some, Option.some.injEq, Prod.mk.injEq, decide_eq_true_eq] at h2
      obtain ⟨h3, h4, h5⟩ := h2
      simp only [appE, ht, Option.bind_some, h1, he, hx, hb]
      rw [if_pos ⟨h5, by omega, by rw [h3]; exact hys⟩, if_pos ⟨trivial, by omega⟩, if_neg (by omega), if_pos ⟨trivial, by omega, by rw [h4]; exact hb1, hb2⟩]
      rw [← hn, List.take_length]

def AW (d : Int) (lin : Bool) (pan : Int) (nn pp : Nat → Int) : H := [.cells 29 [songC d lin 1] true] ++ restH pan 1 (CL nn pp)
def TW (f t x : Int) (v v13 v14 v15 v16 : V) : List V := [.dead, .dead, bv false, iv f, iv t, iv x, .ptr 0 0 0, .dead, .dead, .dead, .dead, .dead, v, v13, v14, v15, v16] ++ List.replicate 171 .dead
def blkW (l : List Nat) : B := .cells 3 (l.map fun (q : Nat) => [iv (q : Int)]) false
/-- The state with the rows wanted so far. -/
def SW (d f t x : Int) (lin : Bool) (pan : Int) (nn pp : Nat → Int) (v13 v14 v15 v16 : V) : List Nat → St
  | [] => ⟨TW f t x nilS v13 v14 v15 v16, AW d lin pan nn pp⟩
  | q :: l => ⟨TW f t x (.row 5 0 (l.length + 1) (l.length + 1)) v13 v14 v15 v16, AW d lin pan nn pp ++ [blkW (q :: l)]⟩

theorem SW_cons {d f t x : Int} {lin : Bool} {pan : Int} {nn pp : Nat → Int} {v13 v14 v15 v16 : V} {l : List Nat} {n : Nat} (hn : l.length = n + 1) : SW d f t x lin pan nn pp v13 v14 v15 v16 l = ⟨TW f t x (.row 5 0 (n + 1) (n + 1)) v13 v14 v15 v16, AW d lin pan nn pp ++ [blkW l]⟩ := by
  cases l with
  | nil => cases hn
  | cons q l =>
    have : l.length = n := by simpa using hn
    subst this
    rfl

theorem SW_gen {d f t x : Int} {lin : Bool} {pan : Int} {nn pp : Nat → Int} (l : List Nat) : ∃ (v : V) (E : H), ∀ v13 v14 v15 v16, SW d f t x lin pan nn pp v13 v14 v15 v16 l = ⟨TW f t x v v13 v14 v15 v16, AW d lin pan nn pp ++ E⟩ := by
  cases l with
  | nil => exact ⟨nilS, [], fun _ _ _ _ => by simp [SW]⟩
  | cons q l => exact ⟨_, _, fun _ _ _ _ => rfl⟩

def Fhole (t : Tmp) : FuncId → Tmp → Bool := fun K k => K == 3 && k == t + 2000

theorem refs_blkW (l : List Nat) : refsB (blkW l) = [] := by
  unfold blkW refsB
  dsimp only
  induction l with
  | nil => rfl
  | cons q l ih => rw [List.map_cons, List.flatMap_cons, ih]; rfl

noncomputable def g10 : Code := sq1 (sq2 g9)
noncomputable def g11 : Code := sq1 (sq2 (sq2 g9))
noncomputable def g15 : Code := sq1 (sq2 (sq2 (sq2 g9)))
noncomputable def g22 : Code := sq1 (sq2 (sq2 (sq2 (sq2 g9))))
noncomputable def g26 : Code := sq2 (sq2 (sq2 (sq2 (sq2 g9))))
noncomputable def x11 : Code := inn (inn (sq2 g11))
noncomputable def x15 : Code := inn (inn (sq2 g15))
noncomputable def y15 : Code := inn (sq1 (sq2 x15))
noncomputable def x18 : Code := inn (inn (sq2 y15))
noncomputable def x22 : Code := inn (inn (sq2 g22))
noncomputable def r14 : Code := inn (sq1 (sq2 x11))
noncomputable def r21 : Code := inn (sq1 (sq2 x18))
noncomputable def r25 : Code := inn (sq1 (sq2 x22))
theorem g9_eq : g9 = .seq (sq1 g9) (.seq g10 (.seq g11 (.seq g15 (.seq g22 g26)))) := by kernel_rfl
theorem g11_eq : g11 = .seq (sq1 g11) (.block 0 (.loop x11)) := by kernel_rfl
theorem x11_eq : x11 = .seq (sq1 x11) (.seq (.block 1 r14) (sq2 (sq2 x11))) := by kernel_rfl
theorem g15_eq : g15 = .seq (sq1 g15) (.block 2 (.loop x15)) := by kernel_rfl
theorem x15_eq : x15 = .seq (sq1 x15) (.seq (.block 3 y15) (sq2 (sq2 x15))) := by kernel_rfl
theorem y15_eq : y15 = .seq (sq1 y15) (.block 4 (.loop x18)) := by kernel_rfl
theorem x18_eq : x18 = .seq (sq1 x18) (.seq (.block 5 r21) (sq2 (sq2 x18))) := by kernel_rfl
theorem g22_eq : g22 = .seq (sq1 g22) (.block 6 (.loop x22)) := by kernel_rfl
theorem x22_eq : x22 = .seq (sq1 x22) (.seq (.block 7 r25) (sq2 (sq2 x22))) := by kernel_rfl

section
variable {w0 : World} {Pr0 : Nat → Prop} {β0 : Bt}

theorem app_r14 {d f t x : Int} {lin : Bool} {pan : Int} {nn pp : Nat → Int} {i : Nat} {l : List Nat} {r : Nat} (hl : l.length ≤ 2000) (hβ : β0.length ≤ 0) {a : Act} {w : World} {Q : Exit → Act → World → Prop} (hr : Rel Tryz.prog w0 Pr0 β0 (SW d f t x lin pan nn pp (iv (r : Int)) .dead .dead .dead l) a w)
    (hq : ∀ a' w', Rel Tryz.prog w0 Pr0 β0 (SW d f t x lin pan nn pp (iv (r : Int)) .dead .dead .dead (l ++ [r])) a' w' → Q .normal a' w') : r14.wp Tryz.prog Q a w := by
  cases l with
  | nil =>
    refine evV_mask (ex := .normal) follows_mixed X1_sound cNone_sound (n := 0) (k := 0) (F := fun _ _ => false) (F0 := fun _ => false) (ds := []) (rec := []) (ks := []) (s' := ⟨((((TW f t x nilS (iv (r : Int)) .dead .dead .dead).set 102 nilS).set 103 (iv (r : Int))).set 104 (.row 5 0 1 1)).set 105 (.row 6 0 1 1) |>.set 12 (.row 6 0 1 1), AW d lin pan nn pp ++ ([.cells 3 [[iv (r : Int)]] true] ++ [blkW [r]])⟩) (by kernel_rfl) trivial hr fun a w hr => hq a w ?_
    exact hr.tail (k := 5) (A := AW d lin pan nn pp) (G := [.cells 3 [[iv (r : Int)]] true]) (b := blkW [r]) (tmw := mask [102, 103, 104, 105] (((((TW f t x nilS (iv (r : Int)) .dead .dead .dead).set 102 nilS).set 103 (iv (r : Int))).set 104 (.row 5 0 1 1)).set 105 (.row 6 0 1 1) |>.set 12 (.row 6 0 1 1))) (by kernel_rfl) (by omega) (by kernel_rfl) (by kernel_rfl) (mask_wk _ _ 0) (by kernel_rfl) (by kernel_rfl)
  | cons q l =>
    refine evV_mask (ex := .normal) follows_mixed X1_sound cNone_sound (n := 0) (k := 0) (F := Fhole 105) (F0 := Fhole 105 3)
      (ds := [(.row 7 0 (l.length + 1 + 1) (l.length + 1 + 1), AW d lin pan nn pp ++ ([.gone, .cells 3 [[iv (r : Int)]] true] ++ [blkW (q :: l ++ [r])]))])
      (rec := [appE Tryz.prog 24 24 (.row 5 0 (l.length + 1) (l.length + 1)) (.row 6 0 1 1) (AW d lin pan nn pp ++ [blkW (q :: l), .cells 3 [[iv (r : Int)]] true]) = some (.row 7 0 (l.length + 1 + 1) (l.length + 1 + 1), AW d lin pan nn pp ++ ([.gone, .cells 3 [[iv (r : Int)]] true] ++ [blkW (q :: l ++ [r])]))]) (ks := [])
      (s' := ⟨((((TW f t x (.row 5 0 (l.length + 1) (l.length + 1)) (iv (r : Int)) .dead .dead .dead).set 102 (.row 5 0 (l.length + 1) (l.length + 1))).set 103 (iv (r : Int))).set 104 (.row 6 0 1 1)).set 105 (.row 7 0 (l.length + 1 + 1) (l.length + 1 + 1)) |>.set 12 (.row 7 0 (l.length + 1 + 1) (l.length + 1 + 1)), AW d lin pan nn pp ++ ([.gone, .cells 3 [[iv (r : Int)]] true] ++ [blkW (q :: l ++ [r])])⟩) (by kernel_rfl) ⟨?_, trivial⟩ hr fun a w hr => hq a w ?_
    · rw [appE_row (e := 3) (es := (q :: l).map fun (q : Nat) => [iv (q : Int)]) (ys := [[iv (r : Int)]]) (ex := false) (sz := 1) (by_ := 8) (by kernel_rfl) (by kernel_rfl) (by omega) rfl rfl (by simp) rfl (by simp) (by simp at hl; simp; omega) (by simp at hl; simp; omega)]
      unfold blkW
      rw [List.map_append]
      rfl
    · rw [SW_cons (n := l.length + 1) (by simp)]
      exact hr.tail (k := 5) (A := AW d lin pan nn pp) (G := [.gone, .cells 3 [[iv (r : Int)]] true]) (b := blkW (q :: l ++ [r])) (tmw := mask [102, 103, 104, 105] (((((TW f t x (.row 5 0 (l.length + 1) (l.length + 1)) (iv (r : Int)) .dead .dead .dead).set 102 (.row 5 0 (l.length + 1) (l.length + 1))).set 103 (iv (r : Int))).set 104 (.row 6 0 1 1)).set 105 (.row 7 0 (l.length + 1 + 1) (l.length + 1 + 1)) |>.set 12 (.row 7 0 (l.length + 1 + 1) (l.length + 1 + 1)))) (by kernel_rfl) (by omega) (by kernel_rfl) (refs_blkW _) (mask_wk _ _ 0) (by kernel_rfl) (by kernel_rfl)

theorem app_r21 {d f t x : Int} {lin : Bool} {pan : Int} {nn pp : Nat → Int} {i : Nat} {l : List Nat} {r : Nat} (hl : l.length ≤ 2000) (hβ : β0.length ≤ 0) {a : Act} {w : World} {Q : Exit → Act → World → Prop} (hr : Rel Tryz.prog w0 Pr0 β0 (SW d f t x lin pan nn pp .dead (iv (i : Int)) (iv (r : Int)) .dead l) a w)
    (hq : ∀ a' w', Rel Tryz.prog w0 Pr0 β0 (SW d f t x lin pan nn pp .dead (iv (i : Int)) (iv (r : Int)) .dead (l ++ [r])) a' w' → Q .normal a' w') : r21.wp Tryz.prog Q a w := by
  cases l with
  | nil =>
    refine evV_mask (ex := .normal) follows_mixed X1_sound cNone_sound (n := 0) (k := 0) (F := fun _ _ => false) (F0 := fun _ => false) (ds := []) (rec := []) (ks := []) (s' := ⟨((((TW f t x nilS .dead (iv (i : Int)) (iv (r : Int)) .dead).set 117 nilS).set 118 (iv (r : Int))).set 119 (.row 5 0 1 1)).set 120 (.row 6 0 1 1) |>.set 12 (.row 6 0 1 1), AW d lin pan nn pp ++ ([.cells 3 [[iv (r : Int)]] true] ++ [blkW [r]])⟩) (by kernel_rfl) trivial hr fun a w hr => hq a w ?_
    exact hr.tail (k := 5) (A := AW d lin pan nn pp) (G := [.cells 3 [[iv (r : Int)]] true]) (b := blkW [r]) (tmw := mask [117, 118, 119, 120] (((((TW f t x nilS .dead (iv (i : Int)) (iv (r : Int)) .dead).set 117 nilS).set 118 (iv (r : Int))).set 119 (.row 5 0 1 1)).set 120 (.row 6 0 1 1) |>.set 12 (.row 6 0 1 1))) (by kernel_rfl) (by omega) (by kernel_rfl) (by kernel_rfl) (mask_wk _ _ 0) (by kernel_rfl) (by kernel_rfl)
  | cons q l =>
    refine evV_mask (ex := .normal) follows_mixed X1_sound cNone_sound (n := 0) (k := 0) (F := Fhole 120) (F0 := Fhole 120 3)
      (ds := [(.row 7 0 (l.length + 1 + 1) (l.length + 1 + 1), AW d lin pan nn pp ++ ([.gone, .cells 3 [[iv (r : Int)]] true] ++ [blkW (q :: l ++ [r])]))])
      (rec := [appE Tryz.prog 24 24 (.row 5 0 (l.length + 1) (l.length + 1)) (.row 6 0 1 1) (AW d lin pan nn pp ++ [blkW (q :: l), .cells 3 [[iv (r : Int)]] true]) = some (.row 7 0 (l.length + 1 + 1) (l.length + 1 + 1), AW d lin pan nn pp ++ ([.gone, .cells 3 [[iv (r : Int)]] true] ++ [blkW (q :: l ++ [r])]))]) (ks := [])
      (s' := ⟨((((TW f t x (.row 5 0 (l.length + 1) (l.length + 1)) .dead (iv (i : Int)) (iv (r : Int)) .dead).set 117 (.row 5 0 (l.length + 1) (l.length + 1))).set 118 (iv (r : Int))).set 119 (.row 6 0 1 1)).set 120 (.row 7 0 (l.length + 1 + 1) (l.length + 1 + 1)) |>.set 12 (.row 7 0 (l.length + 1 + 1) (l.length + 1 + 1)), AW d lin pan nn pp ++ ([.gone, .cells 3 [[iv (r : Int)]] true] ++ [blkW (q :: l ++ [r])])⟩) (by kernel_rfl) ⟨?_, trivial⟩ hr fun a w hr => hq a w ?_
    · rw [appE_row (e := 3) (es := (q :: l).map fun (q : Nat) => [iv (q : Int)]) (ys := [[iv (r : Int)]]) (ex := false) (sz := 1) (by_ := 8) (by kernel_rfl) (by kernel_rfl) (by omega) rfl rfl (by simp) rfl (by simp) (by simp at hl; simp; omega) (by simp at hl; simp; omega)]
      unfold blkW
      rw [List.map_append]
      rfl
    · rw [SW_cons (n := l.length + 1) (by simp)]
      exact hr.tail (k := 5) (A := AW d lin pan nn pp) (G := [.gone, .cells 3 [[iv (r : Int)]] true]) (b := blkW (q :: l ++ [r])) (tmw := mask [117, 118, 119, 120] (((((TW f t x (.row 5 0 (l.length + 1) (l.length + 1)) .dead (iv (i : Int)) (iv (r : Int)) .dead).set 117 (.row 5 0 (l.length + 1) (l.length + 1))).set 118 (iv (r : Int))).set 119 (.row 6 0 1 1)).set 120 (.row 7 0 (l.length + 1 + 1) (l.length + 1 + 1)) |>.set 12 (.row 7 0 (l.length + 1 + 1) (l.length + 1 + 1)))) (by kernel_rfl) (by omega) (by kernel_rfl) (refs_blkW _) (mask_wk _ _ 0) (by kernel_rfl) (by kernel_rfl)

theorem app_r25 {d f t x : Int} {lin : Bool} {pan : Int} {nn pp : Nat → Int} {i : Nat} {l : List Nat} {r : Nat} (hl : l.length ≤ 2000) (hβ : β0.length ≤ 0) {a : Act} {w : World} {Q : Exit → Act → World → Prop} (hr : Rel Tryz.prog w0 Pr0 β0 (SW d f t x lin pan nn pp .dead .dead .dead (iv (r : Int)) l) a w)
    (hq : ∀ a' w', Rel Tryz.prog w0 Pr0 β0 (SW d f t x lin pan nn pp .dead .dead .dead (iv (r : Int)) (l ++ [r])) a' w' → Q .normal a' w') : r25.wp Tryz.prog Q a w := by
  cases l with
  | nil =>
    refine evV_mask (ex := .normal) follows_mixed X1_sound cNone_sound (n := 0) (k := 0) (F := fun _ _ => false) (F0 := fun _ => false) (ds := []) (rec := []) (ks := []) (s' := ⟨((((TW f t x nilS .dead .dead .dead (iv (r : Int))).set 127 nilS).set 128 (iv (r : Int))).set 129 (.row 5 0 1 1)).set 130 (.row 6 0 1 1) |>.set 12 (.row 6 0 1 1), AW d lin pan nn pp ++ ([.cells 3 [[iv (r : Int)]] true] ++ [blkW [r]])⟩) (by kernel_rfl) trivial hr fun a w hr => hq a w ?_
    exact hr.tail (k := 5) (A := AW d lin pan nn pp) (G := [.cells 3 [[iv (r : Int)]] true]) (b := blkW [r]) (tmw := mask [127, 128, 129, 130] (((((TW f t x nilS .dead .dead .dead (iv (r : Int))).set 127 nilS).set 128 (iv (r : Int))).set 129 (.row 5 0 1 1)).set 130 (.row 6 0 1 1) |>.set 12 (.row 6 0 1 1))) (by kernel_rfl) (by omega) (by kernel_rfl) (by kernel_rfl) (mask_wk _ _ 0) (by kernel_rfl) (by kernel_rfl)
  | cons q l =>
    refine evV_mask (ex := .normal) follows_mixed X1_sound cNone_sound (n := 0) (k := 0) (F := Fhole 130) (F0 := Fhole 130 3)
      (ds := [(.row 7 0 (l.length + 1 + 1) (l.length + 1 + 1), AW d lin pan nn pp ++ ([.gone, .cells 3 [[iv (r : Int)]] true] ++ [blkW (q :: l ++ [r])]))])
      (rec := [appE Tryz.prog 24 24 (.row 5 0 (l.length + 1) (l.length + 1)) (.row 6 0 1 1) (AW d lin pan nn pp ++ [blkW (q :: l), .cells 3 [[iv (r : Int)]] true]) = some (.row 7 0 (l.length + 1 + 1) (l.length + 1 + 1), AW d lin pan nn pp ++ ([.gone, .cells 3 [[iv (r : Int)]] true] ++ [blkW (q :: l ++ [r])]))]) (ks := [])
      (s' := ⟨((((TW f t x (.row 5 0 (l.length + 1) (l.length + 1)) .dead .dead .dead (iv (r : Int))).set 127 (.row 5 0 (l.length + 1) (l.length + 1))).set 128 (iv (r : Int))).set 129 (.row 6 0 1 1)).set 130 (.row 7 0 (l.length + 1 + 1) (l.length + 1 + 1)) |>.set 12 (.row 7 0 (l.length + 1 + 1) (l.length + 1 + 1)), AW d lin pan nn pp ++ ([.gone, .cells 3 [[iv (r : Int)]] true] ++ [blkW (q :: l ++ [r])])⟩) (by kernel_rfl) ⟨?_, trivial⟩ hr fun a w hr => hq a w ?_
    · rw [appE_row (e := 3) (es := (q :: l).map fun (q : Nat) => [iv (q : Int)]) (ys := [[iv (r : Int)]]) (ex := false) (sz := 1) (by_ := 8) (by kernel_rfl) (by kernel_rfl) (by omega) rfl rfl (by simp) rfl (by simp) (by simp at hl; simp; omega) (by simp at hl; simp; omega)]
      unfold blkW
      rw [List.map_append]
      rfl
    · rw [SW_cons (n := l.length + 1) (by simp)]
      exact hr.tail (k := 5) (A := AW d lin pan nn pp) (G := [.gone, .cells 3 [[iv (r : Int)]] true]) (b := blkW (q :: l ++ [r])) (tmw := mask [127, 128, 129, 130] (((((TW f t x (.row 5 0 (l.length + 1) (l.length + 1)) .dead .dead .dead (iv (r : Int))).set 127 (.row 5 0 (l.length + 1) (l.length + 1))).set 128 (iv (r : Int))).set 129 (.row 6 0 1 1)).set 130 (.row 7 0 (l.length + 1 + 1) (l.length + 1 + 1)) |>.set 12 (.row 7 0 (l.length + 1 + 1) (l.length + 1 + 1)))) (by kernel_rfl) (by omega) (by kernel_rfl) (refs_blkW _) (mask_wk _ _ 0) (by kernel_rfl) (by kernel_rfl)

end
end Go.Ab

set_option linter.unusedVariables false
set_option linter.unusedSimpArgs false
namespace Go.Ab
open Go.Proofs
set_option maxRecDepth 100000

def Fs (l : List Nat) : FuncId → Tmp → Bool := fun K k => K == 3 && l.contains k
theorem bv_eq {b c : Bool} (h : b = c) : bv b = bv c := by rw [h]
theorem iv_eq {b c : Int} (h : b = c) : iv b = iv c := by rw [h]
theorem up_eq {n : Nat} (hn : n ≤ 2000) : IntKind.i64.wrap ((n : Int) + 1) = ((n + 1 : Nat) : Int) := by
  unfold IntKind.wrap
  simp [IntKind.bits, IntKind.signed]
  omega

section
variable {w0 : World} {Pr0 : Nat → Prop} {β0 : Bt}

theorem z1 {d x : Int} {f t : Nat} {lin : Bool} {pan : Int} {nn pp : Nat → Int} {l : List Nat}  {a : Act} {w : World} {Q : Exit → Act → World → Prop} (hr : Rel Tryz.prog w0 Pr0 β0 (SW d (f : Int) (t : Int) x lin pan nn pp .dead .dead .dead .dead l) a w)
    (hq : ∀ a' w', Rel Tryz.prog w0 Pr0 β0 (SW d (f : Int) (t : Int) x lin pan nn pp (iv ((0 : Nat) : Int)) .dead .dead .dead l) a' w' → Q .normal a' w') : (sq1 g11).wp Tryz.prog Q a w := by
  obtain ⟨v, E, hg⟩ := SW_gen (d := d) (f := (f : Int)) (t := (t : Int)) (x := x) (lin := lin) (pan := pan) (nn := nn) (pp := pp) l
  rw [hg] at hr hq
  exact evV_mask (ex := .normal) follows_mixed X1_sound cNone_sound (n := 0) (k := 0) (F := Fs []) (F0 := Fs [] 3) (ds := []) (rec := []) (ks := []) (s' := ⟨TW (f : Int) (t : Int) x v (iv ((0 : Nat) : Int)) .dead .dead .dead, AW d lin pan nn pp ++ E⟩) (by kernel_rfl) trivial hr hq

theorem h1_in {d x : Int} {f t : Nat} {q : Nat} {lin : Bool} {pan : Int} {nn pp : Nat → Int} {l : List Nat} (hc : (q : Int) < (f : Int)) {a : Act} {w : World} {Q : Exit → Act → World → Prop} (hr : Rel Tryz.prog w0 Pr0 β0 (SW d (f : Int) (t : Int) x lin pan nn pp (iv (q : Int)) .dead .dead .dead l) a w)
    (hq : ∀ a' w', Rel Tryz.prog w0 Pr0 β0 (SW d (f : Int) (t : Int) x lin pan nn pp (iv (q : Int)) .dead .dead .dead l) a' w' → Q .normal a' w') : (sq1 x11).wp Tryz.prog Q a w := by
  obtain ⟨v, E, hg⟩ := SW_gen (d := d) (f := (f : Int)) (t := (t : Int)) (x := x) (lin := lin) (pan := pan) (nn := nn) (pp := pp) l
  rw [hg] at hr hq
  exact evV_mask (ex := .normal) follows_mixed X1_sound cNone_sound (n := 0) (k := 0) (F := Fs [99]) (F0 := Fs [99] 3) (ds := [(bv true, [])]) (rec := [bv (decide ((q : Int) < (f : Int))) = bv true]) (ks := [97, 98, 99]) (s' := ⟨TW (f : Int) (t : Int) x v (iv (q : Int)) .dead .dead .dead, AW d lin pan nn pp ++ E⟩) (by kernel_rfl) ⟨bv_eq (decide_eq_true hc), trivial⟩ hr hq

theorem h1_out {d x : Int} {f t : Nat} {q : Nat} {lin : Bool} {pan : Int} {nn pp : Nat → Int} {l : List Nat} (hc : ¬ (q : Int) < (f : Int)) {a : Act} {w : World} {Q : Exit → Act → World → Prop} (hr : Rel Tryz.prog w0 Pr0 β0 (SW d (f : Int) (t : Int) x lin pan nn pp (iv (q : Int)) .dead .dead .dead l) a w)
    (hq : ∀ a' w', Rel Tryz.prog w0 Pr0 β0 (SW d (f : Int) (t : Int) x lin pan nn pp .dead .dead .dead .dead l) a' w' → Q (.exit 0) a' w') : (sq1 x11).wp Tryz.prog Q a w := by
  obtain ⟨v, E, hg⟩ := SW_gen (d := d) (f := (f : Int)) (t := (t : Int)) (x := x) (lin := lin) (pan := pan) (nn := nn) (pp := pp) l
  rw [hg] at hr hq
  exact evV_mask (ex := (.exit 0)) follows_mixed X1_sound cNone_sound (n := 0) (k := 0) (F := Fs [99]) (F0 := Fs [99] 3) (ds := [(bv false, [])]) (rec := [bv (decide ((q : Int) < (f : Int))) = bv false]) (ks := ([97, 98, 99] ++ [13])) (s' := ⟨TW (f : Int) (t : Int) x v .dead .dead .dead .dead, AW d lin pan nn pp ++ E⟩) (by kernel_rfl) ⟨bv_eq (decide_eq_false hc), trivial⟩ hr hq

theorem i1 {d x : Int} {f t : Nat} {q : Nat} {lin : Bool} {pan : Int} {nn pp : Nat → Int} {l : List Nat} (hc : q ≤ 2000) {a : Act} {w : World} {Q : Exit → Act → World → Prop} (hr : Rel Tryz.prog w0 Pr0 β0 (SW d (f : Int) (t : Int) x lin pan nn pp (iv (q : Int)) .dead .dead .dead l) a w)
    (hq : ∀ a' w', Rel Tryz.prog w0 Pr0 β0 (SW d (f : Int) (t : Int) x lin pan nn pp (iv ((q + 1 : Nat) : Int)) .dead .dead .dead l) a' w' → Q .normal a' w') : (sq2 (sq2 x11)).wp Tryz.prog Q a w := by
  obtain ⟨v, E, hg⟩ := SW_gen (d := d) (f := (f : Int)) (t := (t : Int)) (x := x) (lin := lin) (pan := pan) (nn := nn) (pp := pp) l
  rw [hg] at hr hq
  exact evV_mask (ex := .normal) follows_mixed X1_sound cNone_sound (n := 0) (k := 0) (F := Fs [101]) (F0 := Fs [101] 3) (ds := [((iv ((q + 1 : Nat) : Int)), [])]) (rec := [iv (IntKind.i64.wrap ((q : Int) + 1)) = (iv ((q + 1 : Nat) : Int))]) (ks := [100, 101]) (s' := ⟨TW (f : Int) (t : Int) x v (iv ((q + 1 : Nat) : Int)) .dead .dead .dead, AW d lin pan nn pp ++ E⟩) (by kernel_rfl) ⟨iv_eq (up_eq hc), trivial⟩ hr hq

theorem z2 {d x : Int} {f t : Nat} {lin : Bool} {pan : Int} {nn pp : Nat → Int} {l : List Nat}  {a : Act} {w : World} {Q : Exit → Act → World → Prop} (hr : Rel Tryz.prog w0 Pr0 β0 (SW d (f : Int) (t : Int) x lin pan nn pp .dead .dead .dead .dead l) a w)
    (hq : ∀ a' w', Rel Tryz.prog w0 Pr0 β0 (SW d (f : Int) (t : Int) x lin pan nn pp .dead (iv ((0 : Nat) : Int)) .dead .dead l) a' w' → Q .normal a' w') : (sq1 g15).wp Tryz.prog Q a w := by
  obtain ⟨v, E, hg⟩ := SW_gen (d := d) (f := (f : Int)) (t := (t : Int)) (x := x) (lin := lin) (pan := pan) (nn := nn) (pp := pp) l
  rw [hg] at hr hq
  exact evV_mask (ex := .normal) follows_mixed X1_sound cNone_sound (n := 0) (k := 0) (F := Fs []) (F0 := Fs [] 3) (ds := []) (rec := []) (ks := []) (s' := ⟨TW (f : Int) (t : Int) x v .dead (iv ((0 : Nat) : Int)) .dead .dead, AW d lin pan nn pp ++ E⟩) (by kernel_rfl) trivial hr hq

theorem h2_in {d x : Int} {f t : Nat} {i : Nat} {lin : Bool} {pan : Int} {nn pp : Nat → Int} {l : List Nat} (hc : (i : Int) ≤ x) {a : Act} {w : World} {Q : Exit → Act → World → Prop} (hr : Rel Tryz.prog w0 Pr0 β0 (SW d (f : Int) (t : Int) x lin pan nn pp .dead (iv (i : Int)) .dead .dead l) a w)
    (hq : ∀ a' w', Rel Tryz.prog w0 Pr0 β0 (SW d (f : Int) (t : Int) x lin pan nn pp .dead (iv (i : Int)) .dead .dead l) a' w' → Q .normal a' w') : (sq1 x15).wp Tryz.prog Q a w := by
  obtain ⟨v, E, hg⟩ := SW_gen (d := d) (f := (f : Int)) (t := (t : Int)) (x := x) (lin := lin) (pan := pan) (nn := nn) (pp := pp) l
  rw [hg] at hr hq
  exact evV_mask (ex := .normal) follows_mixed X1_sound cNone_sound (n := 0) (k := 0) (F := Fs [108]) (F0 := Fs [108] 3) (ds := [(bv true, [])]) (rec := [bv (decide ((i : Int) ≤ x)) = bv true]) (ks := [106, 107, 108]) (s' := ⟨TW (f : Int) (t : Int) x v .dead (iv (i : Int)) .dead .dead, AW d lin pan nn pp ++ E⟩) (by kernel_rfl) ⟨bv_eq (decide_eq_true hc), trivial⟩ hr hq

theorem h2_out {d x : Int} {f t : Nat} {i : Nat} {lin : Bool} {pan : Int} {nn pp : Nat → Int} {l : List Nat} (hc : ¬ (i : Int) ≤ x) {a : Act} {w : World} {Q : Exit → Act → World → Prop} (hr : Rel Tryz.prog w0 Pr0 β0 (SW d (f : Int) (t : Int) x lin pan nn pp .dead (iv (i : Int)) .dead .dead l) a w)
    (hq : ∀ a' w', Rel Tryz.prog w0 Pr0 β0 (SW d (f : Int) (t : Int) x lin pan nn pp .dead .dead .dead .dead l) a' w' → Q (.exit 2) a' w') : (sq1 x15).wp Tryz.prog Q a w := by
  obtain ⟨v, E, hg⟩ := SW_gen (d := d) (f := (f : Int)) (t := (t : Int)) (x := x) (lin := lin) (pan := pan) (nn := nn) (pp := pp) l
  rw [hg] at hr hq
  exact evV_mask (ex := (.exit 2)) follows_mixed X1_sound cNone_sound (n := 0) (k := 0) (F := Fs [108]) (F0 := Fs [108] 3) (ds := [(bv false, [])]) (rec := [bv (decide ((i : Int) ≤ x)) = bv false]) (ks := ([106, 107, 108] ++ [14])) (s' := ⟨TW (f : Int) (t : Int) x v .dead .dead .dead .dead, AW d lin pan nn pp ++ E⟩) (by kernel_rfl) ⟨bv_eq (decide_eq_false hc), trivial⟩ hr hq

theorem z3 {d x : Int} {f t : Nat} {i : Nat} {lin : Bool} {pan : Int} {nn pp : Nat → Int} {l : List Nat}  {a : Act} {w : World} {Q : Exit → Act → World → Prop} (hr : Rel Tryz.prog w0 Pr0 β0 (SW d (f : Int) (t : Int) x lin pan nn pp .dead (iv (i : Int)) .dead .dead l) a w)
    (hq : ∀ a' w', Rel Tryz.prog w0 Pr0 β0 (SW d (f : Int) (t : Int) x lin pan nn pp .dead (iv (i : Int)) (iv (f : Int)) .dead l) a' w' → Q .normal a' w') : (sq1 y15).wp Tryz.prog Q a w := by
  obtain ⟨v, E, hg⟩ := SW_gen (d := d) (f := (f : Int)) (t := (t : Int)) (x := x) (lin := lin) (pan := pan) (nn := nn) (pp := pp) l
  rw [hg] at hr hq
  exact evV_mask (ex := .normal) follows_mixed X1_sound cNone_sound (n := 0) (k := 0) (F := Fs []) (F0 := Fs [] 3) (ds := []) (rec := []) (ks := [111]) (s' := ⟨TW (f : Int) (t : Int) x v .dead (iv (i : Int)) (iv (f : Int)) .dead, AW d lin pan nn pp ++ E⟩) (by kernel_rfl) trivial hr hq

theorem h3_in {d x : Int} {f t : Nat} {q i : Nat} {lin : Bool} {pan : Int} {nn pp : Nat → Int} {l : List Nat} (hc : (q : Int) ≤ (t : Int)) {a : Act} {w : World} {Q : Exit → Act → World → Prop} (hr : Rel Tryz.prog w0 Pr0 β0 (SW d (f : Int) (t : Int) x lin pan nn pp .dead (iv (i : Int)) (iv (q : Int)) .dead l) a w)
    (hq : ∀ a' w', Rel Tryz.prog w0 Pr0 β0 (SW d (f : Int) (t : Int) x lin pan nn pp .dead (iv (i : Int)) (iv (q : Int)) .dead l) a' w' → Q .normal a' w') : (sq1 x18).wp Tryz.prog Q a w := by
  obtain ⟨v, E, hg⟩ := SW_gen (d := d) (f := (f : Int)) (t := (t : Int)) (x := x) (lin := lin) (pan := pan) (nn := nn) (pp := pp) l
  rw [hg] at hr hq
  exact evV_mask (ex := .normal) follows_mixed X1_sound cNone_sound (n := 0) (k := 0) (F := Fs [114]) (F0 := Fs [114] 3) (ds := [(bv true, [])]) (rec := [bv (decide ((q : Int) ≤ (t : Int))) = bv true]) (ks := [112, 113, 114]) (s' := ⟨TW (f : Int) (t : Int) x v .dead (iv (i : Int)) (iv (q : Int)) .dead, AW d lin pan nn pp ++ E⟩) (by kernel_rfl) ⟨bv_eq (decide_eq_true hc), trivial⟩ hr hq

theorem h3_out {d x : Int} {f t : Nat} {q i : Nat} {lin : Bool} {pan : Int} {nn pp : Nat → Int} {l : List Nat} (hc : ¬ (q : Int) ≤ (t : Int)) {a : Act} {w : World} {Q : Exit → Act → World → Prop} (hr : Rel Tryz.prog w0 Pr0 β0 (SW d (f : Int) (t : Int) x lin pan nn pp .dead (iv (i : Int)) (iv (q : Int)) .dead l) a w)
    (hq : ∀ a' w', Rel Tryz.prog w0 Pr0 β0 (SW d (f : Int) (t : Int) x lin pan nn pp .dead (iv (i : Int)) .dead .dead l) a' w' → Q (.exit 4) a' w') : (sq1 x18).wp Tryz.prog Q a w := by
  obtain ⟨v, E, hg⟩ := SW_gen (d := d) (f := (f : Int)) (t := (t : Int)) (x := x) (lin := lin) (pan := pan) (nn := nn) (pp := pp) l
  rw [hg] at hr hq
  exact evV_mask (ex := (.exit 4)) follows_mixed X1_sound cNone_sound (n := 0) (k := 0) (F := Fs [114]) (F0 := Fs [114] 3) (ds := [(bv false, [])]) (rec := [bv (decide ((q : Int) ≤ (t : Int))) = bv false]) (ks := ([112, 113, 114] ++ [15])) (s' := ⟨TW (f : Int) (t : Int) x v .dead (iv (i : Int)) .dead .dead, AW d lin pan nn pp ++ E⟩) (by kernel_rfl) ⟨bv_eq (decide_eq_false hc), trivial⟩ hr hq

theorem i3 {d x : Int} {f t : Nat} {q i : Nat} {lin : Bool} {pan : Int} {nn pp : Nat → Int} {l : List Nat} (hc : q ≤ 2000) {a : Act} {w : World} {Q : Exit → Act → World → Prop} (hr : Rel Tryz.prog w0 Pr0 β0 (SW d (f : Int) (t : Int) x lin pan nn pp .dead (iv (i : Int)) (iv (q : Int)) .dead l) a w)
    (hq : ∀ a' w', Rel Tryz.prog w0 Pr0 β0 (SW d (f : Int) (t : Int) x lin pan nn pp .dead (iv (i : Int)) (iv ((q + 1 : Nat) : Int)) .dead l) a' w' → Q .normal a' w') : (sq2 (sq2 x18)).wp Tryz.prog Q a w := by
  obtain ⟨v, E, hg⟩ := SW_gen (d := d) (f := (f : Int)) (t := (t : Int)) (x := x) (lin := lin) (pan := pan) (nn := nn) (pp := pp) l
  rw [hg] at hr hq
  exact evV_mask (ex := .normal) follows_mixed X1_sound cNone_sound (n := 0) (k := 0) (F := Fs [116]) (F0 := Fs [116] 3) (ds := [((iv ((q + 1 : Nat) : Int)), [])]) (rec := [iv (IntKind.i64.wrap ((q : Int) + 1)) = (iv ((q + 1 : Nat) : Int))]) (ks := [115, 116]) (s' := ⟨TW (f : Int) (t : Int) x v .dead (iv (i : Int)) (iv ((q + 1 : Nat) : Int)) .dead, AW d lin pan nn pp ++ E⟩) (by kernel_rfl) ⟨iv_eq (up_eq hc), trivial⟩ hr hq

theorem i2 {d x : Int} {f t : Nat} {i : Nat} {lin : Bool} {pan : Int} {nn pp : Nat → Int} {l : List Nat} (hc : i ≤ 2000) {a : Act} {w : World} {Q : Exit → Act → World → Prop} (hr : Rel Tryz.prog w0 Pr0 β0 (SW d (f : Int) (t : Int) x lin pan nn pp .dead (iv (i : Int)) .dead .dead l) a w)
    (hq : ∀ a' w', Rel Tryz.prog w0 Pr0 β0 (SW d (f : Int) (t : Int) x lin pan nn pp .dead (iv ((i + 1 : Nat) : Int)) .dead .dead l) a' w' → Q .normal a' w') : (sq2 (sq2 x15)).wp Tryz.prog Q a w := by
  obtain ⟨v, E, hg⟩ := SW_gen (d := d) (f := (f : Int)) (t := (t : Int)) (x := x) (lin := lin) (pan := pan) (nn := nn) (pp := pp) l
  rw [hg] at hr hq
  exact evV_mask (ex := .normal) follows_mixed X1_sound cNone_sound (n := 0) (k := 0) (F := Fs [110]) (F0 := Fs [110] 3) (ds := [((iv ((i + 1 : Nat) : Int)), [])]) (rec := [iv (IntKind.i64.wrap ((i : Int) + 1)) = (iv ((i + 1 : Nat) : Int))]) (ks := [109, 110]) (s' := ⟨TW (f : Int) (t : Int) x v .dead (iv ((i + 1 : Nat) : Int)) .dead .dead, AW d lin pan nn pp ++ E⟩) (by kernel_rfl) ⟨iv_eq (up_eq hc), trivial⟩ hr hq

theorem z4 {d x : Int} {f t : Nat} {lin : Bool} {pan : Int} {nn pp : Nat → Int} {l : List Nat} (hc : t ≤ 2000) {a : Act} {w : World} {Q : Exit → Act → World → Prop} (hr : Rel Tryz.prog w0 Pr0 β0 (SW d (f : Int) (t : Int) x lin pan nn pp .dead .dead .dead .dead l) a w)
    (hq : ∀ a' w', Rel Tryz.prog w0 Pr0 β0 (SW d (f : Int) (t : Int) x lin pan nn pp .dead .dead .dead (iv ((t + 1 : Nat) : Int)) l) a' w' → Q .normal a' w') : (sq1 g22).wp Tryz.prog Q a w := by
  obtain ⟨v, E, hg⟩ := SW_gen (d := d) (f := (f : Int)) (t := (t : Int)) (x := x) (lin := lin) (pan := pan) (nn := nn) (pp := pp) l
  rw [hg] at hr hq
  exact evV_mask (ex := .normal) follows_mixed X1_sound cNone_sound (n := 0) (k := 0) (F := Fs [122]) (F0 := Fs [122] 3) (ds := [((iv ((t + 1 : Nat) : Int)), [])]) (rec := [iv (IntKind.i64.wrap ((t : Int) + 1)) = (iv ((t + 1 : Nat) : Int))]) (ks := [121, 122]) (s' := ⟨TW (f : Int) (t : Int) x v .dead .dead .dead (iv ((t + 1 : Nat) : Int)), AW d lin pan nn pp ++ E⟩) (by kernel_rfl) ⟨iv_eq (up_eq hc), trivial⟩ hr hq

theorem h4_in {d x : Int} {f t : Nat} {q : Nat} {lin : Bool} {pan : Int} {nn pp : Nat → Int} {l : List Nat} (hc : (q : Int) < 64) {a : Act} {w : World} {Q : Exit → Act → World → Prop} (hr : Rel Tryz.prog w0 Pr0 β0 (SW d (f : Int) (t : Int) x lin pan nn pp .dead .dead .dead (iv (q : Int)) l) a w)
    (hq : ∀ a' w', Rel Tryz.prog w0 Pr0 β0 (SW d (f : Int) (t : Int) x lin pan nn pp .dead .dead .dead (iv (q : Int)) l) a' w' → Q .normal a' w') : (sq1 x22).wp Tryz.prog Q a w := by
  obtain ⟨v, E, hg⟩ := SW_gen (d := d) (f := (f : Int)) (t := (t : Int)) (x := x) (lin := lin) (pan := pan) (nn := nn) (pp := pp) l
  rw [hg] at hr hq
  exact evV_mask (ex := .normal) follows_mixed X1_sound cNone_sound (n := 0) (k := 0) (F := Fs [124]) (F0 := Fs [124] 3) (ds := [(bv true, [])]) (rec := [bv (decide ((q : Int) < 64)) = bv true]) (ks := [123, 124]) (s' := ⟨TW (f : Int) (t : Int) x v .dead .dead .dead (iv (q : Int)), AW d lin pan nn pp ++ E⟩) (by kernel_rfl) ⟨bv_eq (decide_eq_true hc), trivial⟩ hr hq

theorem h4_out {d x : Int} {f t : Nat} {q : Nat} {lin : Bool} {pan : Int} {nn pp : Nat → Int} {l : List Nat} (hc : ¬ (q : Int) < 64) {a : Act} {w : World} {Q : Exit → Act → World → Prop} (hr : Rel Tryz.prog w0 Pr0 β0 (SW d (f : Int) (t : Int) x lin pan nn pp .dead .dead .dead (iv (q : Int)) l) a w)
    (hq : ∀ a' w', Rel Tryz.prog w0 Pr0 β0 (SW d (f : Int) (t : Int) x lin pan nn pp .dead .dead .dead .dead l) a' w' → Q (.exit 6) a' w') : (sq1 x22).wp Tryz.prog Q a w := by
  obtain ⟨v, E, hg⟩ := SW_gen (d := d) (f := (f : Int)) (t := (t : Int)) (x := x) (lin := lin) (pan := pan) (nn := nn) (pp := pp) l
  rw [hg] at hr hq
  exact evV_mask (ex := (.exit 6)) follows_mixed X1_sound cNone_sound (n := 0) (k := 0) (F := Fs [124]) (F0 := Fs [124] 3) (ds := [(bv false, [])]) (rec := [bv (decide ((q : Int) < 64)) = bv false]) (ks := ([123, 124] ++ [16])) (s' := ⟨TW (f : Int) (t : Int) x v .dead .dead .dead .dead, AW d lin pan nn pp ++ E⟩) (by kernel_rfl) ⟨bv_eq (decide_eq_false hc), trivial⟩ hr hq

theorem i4 {d x : Int} {f t : Nat} {q : Nat} {lin : Bool} {pan : Int} {nn pp : Nat → Int} {l : List Nat} (hc : q ≤ 2000) {a : Act} {w : World} {Q : Exit → Act → World → Prop} (hr : Rel Tryz.prog w0 Pr0 β0 (SW d (f : Int) (t : Int) x lin pan nn pp .dead .dead .dead (iv (q : Int)) l) a w)
    (hq : ∀ a' w', Rel Tryz.prog w0 Pr0 β0 (SW d (f : Int) (t : Int) x lin pan nn pp .dead .dead .dead (iv ((q + 1 : Nat) : Int)) l) a' w' → Q .normal a' w') : (sq2 (sq2 x22)).wp Tryz.prog Q a w := by
  obtain ⟨v, E, hg⟩ := SW_gen (d := d) (f := (f : Int)) (t := (t : Int)) (x := x) (lin := lin) (pan := pan) (nn := nn) (pp := pp) l
  rw [hg] at hr hq
  exact evV_mask (ex := .normal) follows_mixed X1_sound cNone_sound (n := 0) (k := 0) (F := Fs [126]) (F0 := Fs [126] 3) (ds := [((iv ((q + 1 : Nat) : Int)), [])]) (rec := [iv (IntKind.i64.wrap ((q : Int) + 1)) = (iv ((q + 1 : Nat) : Int))]) (ks := [125, 126]) (s' := ⟨TW (f : Int) (t : Int) x v .dead .dead .dead (iv ((q + 1 : Nat) : Int)), AW d lin pan nn pp ++ E⟩) (by kernel_rfl) ⟨iv_eq (up_eq hc), trivial⟩ hr hq

/-- The rows of a loop, so often. -/
def loopL (f t i : Nat) : List Nat := List.range f ++ (List.replicate i (List.range' f (t + 1 - f))).flatten
/-- The rows wanted. -/
def wantL (f t i : Nat) : List Nat := loopL f t (i + 1) ++ List.range' (t + 1) (63 - t)

theorem loopL_length (f t i : Nat) : (loopL f t i).length = f + i * (t + 1 - f) := by
  unfold loopL
  rw [List.length_append, List.length_range, List.length_flatten, List.map_replicate, List.length_range', List.sum_replicate_nat]

theorem loopL_succ (f t i : Nat) : loopL f t (i + 1) = loopL f t i ++ List.range' f (t + 1 - f) := by
  unfold loopL
  rw [List.replicate_succ', List.flatten_append, ← List.append_assoc]
  simp

theorem want1 {d x : Int} {f t : Nat} {lin : Bool} {pan : Int} {nn pp : Nat → Int} (hf : f ≤ 64) (hβ : β0.length ≤ 0) {a : Act} {w : World} {Q : Exit → Act → World → Prop} (hr : Rel Tryz.prog w0 Pr0 β0 (SW d (f : Int) (t : Int) x lin pan nn pp .dead .dead .dead .dead []) a w)
    (hq : ∀ a' w', Rel Tryz.prog w0 Pr0 β0 (SW d (f : Int) (t : Int) x lin pan nn pp .dead .dead .dead .dead (List.range f)) a' w' → Q .normal a' w') : g11.wp Tryz.prog Q a w := by
  rw [g11_eq]
  refine wp_seq (z1 hr fun a w hr => ?_)
  refine wp_block (loop_up (S := fun q => SW d (f : Int) (t : Int) x lin pan nn pp (iv (q : Int)) .dead .dead .dead (List.range q)) (N := f) (q0 := 0) (by omega) hr (fun q _ hqf a w hr => ?_) fun a w hr => ?_)
  · rw [x11_eq]
    refine wp_seq (h1_in (by omega) hr fun a w hr => wp_seq (wp_block (app_r14 (i := 0) (by simp; omega) hβ hr fun a w hr => ?_)))
    refine i1 (by omega) hr fun a w hr => ?_
    have hr2 := hr
    rw [← List.range_succ] at hr2
    exact hr2
  · rw [x11_eq]
    exact wp_seq (h1_out (by omega) hr fun a w hr => hq a w hr)

theorem want2 {d : Int} {f t x : Nat} {lin : Bool} {pan : Int} {nn pp : Nat → Int} (hft : f ≤ t) (ht : t ≤ 63) (hx : x ≤ 15) (hβ : β0.length ≤ 0) {a : Act} {w : World} {Q : Exit → Act → World → Prop} (hr : Rel Tryz.prog w0 Pr0 β0 (SW d (f : Int) (t : Int) (x : Int) lin pan nn pp .dead .dead .dead .dead (List.range f)) a w)
    (hq : ∀ a' w', Rel Tryz.prog w0 Pr0 β0 (SW d (f : Int) (t : Int) (x : Int) lin pan nn pp .dead .dead .dead .dead (loopL f t (x + 1))) a' w' → Q .normal a' w') : g15.wp Tryz.prog Q a w := by
  have hlen : ∀ i, i ≤ x + 1 → (loopL f t i).length ≤ 1100 := fun i hi => by
    rw [loopL_length]
    have : i * (t + 1 - f) ≤ 16 * 64 := Nat.mul_le_mul (by omega) (by omega)
    omega
  rw [g15_eq]
  refine wp_seq (z2 hr fun a w hr => ?_)
  refine wp_block (loop_up (S := fun i => SW d (f : Int) (t : Int) (x : Int) lin pan nn pp .dead (iv (i : Int)) .dead .dead (loopL f t i)) (N := x + 1) (q0 := 0) (by omega) (by simpa [loopL] using hr) (fun i _ hi a w hr => ?_) fun a w hr => ?_)
  · rw [x15_eq]
    refine wp_seq (h2_in (by omega) hr fun a w hr => wp_seq (wp_block ?_))
    rw [y15_eq]
    refine wp_seq (z3 hr fun a w hr => ?_)
    refine wp_block (loop_up (S := fun q => SW d (f : Int) (t : Int) (x : Int) lin pan nn pp .dead (iv (i : Int)) (iv (q : Int)) .dead (loopL f t i ++ List.range' f (q - f))) (N := t + 1) (q0 := f) (by omega) (by simpa using hr) (fun q hq1 hq2 a w hr => ?_) fun a w hr => ?_)
    · rw [x18_eq]
      refine wp_seq (h3_in (by omega) hr fun a w hr => wp_seq (wp_block (app_r21 (by have := hlen i (by omega); simp; omega) hβ hr fun a w hr => ?_)))
      refine i3 (by omega) hr fun a w hr => ?_
      have hr2 := hr
      rw [List.append_assoc, show List.range' f (q - f) ++ [q] = List.range' f (q + 1 - f) by
        rw [show q + 1 - f = (q - f) + 1 by omega, List.range'_concat]
        simp
        omega] at hr2
      exact hr2
    · rw [x18_eq]
      refine wp_seq (h3_out (by omega) hr fun a w hr => ?_)
      refine i2 (by omega) hr fun a w hr => ?_
      have hr2 := hr
      rw [← loopL_succ] at hr2
      exact hr2
  · rw [x15_eq]
    exact wp_seq (h2_out (by omega) hr fun a w hr => hq a w hr)

theorem want3 {d : Int} {f t x : Nat} {lin : Bool} {pan : Int} {nn pp : Nat → Int} (hft : f ≤ t) (ht : t ≤ 63) (hx : x ≤ 15) (hβ : β0.length ≤ 0) {a : Act} {w : World} {Q : Exit → Act → World → Prop} (hr : Rel Tryz.prog w0 Pr0 β0 (SW d (f : Int) (t : Int) (x : Int) lin pan nn pp .dead .dead .dead .dead (loopL f t (x + 1))) a w)
    (hq : ∀ a' w', Rel Tryz.prog w0 Pr0 β0 (SW d (f : Int) (t : Int) (x : Int) lin pan nn pp .dead .dead .dead .dead (wantL f t x)) a' w' → Q .normal a' w') : g22.wp Tryz.prog Q a w := by
  have hlen : (loopL f t (x + 1)).length ≤ 1100 := by
    rw [loopL_length]
    have : (x + 1) * (t + 1 - f) ≤ 16 * 64 := Nat.mul_le_mul (by omega) (by omega)
    omega
  rw [g22_eq]
  refine wp_seq (z4 (by omega) hr fun a w hr => ?_)
  refine wp_block (loop_up (S := fun q => SW d (f : Int) (t : Int) (x : Int) lin pan nn pp .dead .dead .dead (iv (q : Int)) (loopL f t (x + 1) ++ List.range' (t + 1) (q - (t + 1)))) (N := 64) (q0 := t + 1) (by omega) (by simpa using hr) (fun q hq1 hq2 a w hr => ?_) fun a w hr => ?_)
  · rw [x22_eq]
    refine wp_seq (h4_in (by omega) hr fun a w hr => wp_seq (wp_block (app_r25 (i := 0) (by simp; omega) hβ hr fun a w hr => ?_)))
    refine i4 (by omega) hr fun a w hr => ?_
    have hr2 := hr
    rw [List.append_assoc, show List.range' (t + 1) (q - (t + 1)) ++ [q] = List.range' (t + 1) (q + 1 - (t + 1)) by
      rw [show q + 1 - (t + 1) = (q - (t + 1)) + 1 by omega, List.range'_concat]
      simp
      omega] at hr2
    exact hr2
  · rw [x22_eq]
    refine wp_seq (h4_out (by omega) hr fun a w hr => ?_)
    have hr2 := hr
    rw [show loopL f t (x + 1) ++ List.range' (t + 1) (64 - (t + 1)) = wantL f t x by
      unfold wantL
      rw [show 64 - (t + 1) = 63 - t by omega]] at hr2
    exact hq a w hr2
end
end Go.Ab
