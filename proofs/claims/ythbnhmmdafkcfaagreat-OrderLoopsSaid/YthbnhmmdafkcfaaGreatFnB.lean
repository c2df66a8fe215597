/- What single functions of the program and of the reference answer, for the inputs that OrderLoops hands them. -/
import Derived.Test.YthbnhmmdafkcfaaGreatEngG
import Derived.Test.YthbnhmmdafkcfaaGreatFnA
set_option linter.unusedVariables false
set_option linter.unusedSimpArgs false
namespace Go.Ab
open Go.Proofs
set_option maxRecDepth 100000

def setT (n : Nat) (l : List (Nat × V)) : List V := l.foldl (fun t p => t.set p.1 p.2) (List.replicate n uv)

/-- A function without arguments, known. -/
def one0 (K0 : FuncId) (r : V × H) : Orc := fun K args h => if K = K0 then match args, h with | [], [] => some r | _, _ => none else none
theorem one0_sound {P : Program} {K0 : FuncId} {v : V} {h : H} (hr : Callable P K0 ∧ Run P K0 [] [] v h) : OSound P (one0 K0 (v, h)) := by
  intro K args h0 v' h' he
  unfold one0 at he
  split at he
  · rename_i hK
    subst hK
    split at he
    · injection he with he
      injection he with e1 e2
      subst e1 e2
      exact hr
    · cases he
  · cases he

/-! ### dialect.fast -/

def fC51 : V × H := (.mp 0, [.map [(.int .u8 48, .dead, 0), (.int .u8 49, .fn 170 [] [.ptr 1 0 0], 0), (.int .u8 50, .fn 170 [] [.ptr 2 0 0], 0), (.int .u8 51, .dead, 0), (.int .u8 52, .dead, 0), (.int .u8 53, .fn 93 [] [], 0), (.int .u8 54, .fn 96 [] [], 0), (.int .u8 55, .dead, 0), (.int .u8 56, .dead, 0), (.int .u8 57, .dead, 0), (.int .u8 65, .fn 169 [] [.ptr 3 0 0], 0), (.int .u8 66, .dead, 0), (.int .u8 67, .dead, 0), (.int .u8 68, .dead, 0), (.int .u8 69, .dead, 0), (.int .u8 70, .dead, 0)] 16, .cells 3 [[iv 2]] true, .cells 3 [[iv 3]] true, .cells 3 [[iv 12]] true])
def fC104 : V × H := (.mp 0, [.map [(.int .i64 1, .fn 181 [] [.ptr 1 0 0], 0), (.int .i64 2, .fn 181 [] [.ptr 2 0 0], 0), (.int .i64 3, .dead, 0), (.int .i64 4, .dead, 0), (.int .i64 5, .dead, 0), (.int .i64 6, .fn 181 [] [.ptr 3 0 0], 0), (.int .i64 7, .dead, 0), (.int .i64 8, .dead, 0), (.int .i64 9, .dead, 0), (.int .i64 10, .fn 181 [] [.ptr 4 0 0], 0), (.int .i64 11, .fn 181 [] [.ptr 5 0 0], 0), (.int .i64 12, .dead, 0), (.int .i64 13, .dead, 0), (.int .i64 14, .dead, 0)] 14, .cells 3 [[iv 4]] true, .cells 3 [[iv 5]] true, .cells 3 [[iv 34]] true, .cells 3 [[iv 13]] true, .cells 3 [[iv 14]] true])
def Xf : Orc := orX (orX X1 (one0 51 fC51)) (one0 104 fC104)
theorem Xf_sound : OSound Tryz.prog Xf := orX_sound (orX_sound X1_sound (one0_sound (coarse_sound follows_mixed X1_sound (n := 20) (p := pk [49,50,53,54,65] []) (by kernel_rfl)))) (one0_sound (coarse_sound follows_mixed X1_sound (n := 20) (p := pk [] [1,2,10,11,6]) (by kernel_rfl)))
noncomputable def Of : Orc := evN Tryz.prog Xf 12
theorem Of_sound : OSound Tryz.prog (callE Of) := callE_sound (evN_sound follows_mixed Xf_sound 12)
noncomputable def b53 : Code := Tryz.f53.body.getD .skip

def fL1 : List (Value × V × Nat) := [(.int .u8 49, iv 5, 1), (.int .u8 50, iv 6, 2), (.int .u8 53, iv 7, 3), (.int .u8 54, iv 7, 4), (.int .u8 65, iv 7, 5)]
def fH1 (x0 x1 x2 x3 x4 : V) (g : H) : H := .map [(.int .u8 48, .dead, 0), (.int .u8 49, x0, 0), (.int .u8 50, x1, 0), (.int .u8 51, .dead, 0), (.int .u8 52, .dead, 0), (.int .u8 53, x2, 0), (.int .u8 54, x3, 0), (.int .u8 55, .dead, 0), (.int .u8 56, .dead, 0), (.int .u8 57, .dead, 0), (.int .u8 65, x4, 0), (.int .u8 66, .dead, 0), (.int .u8 67, .dead, 0), (.int .u8 68, .dead, 0), (.int .u8 69, .dead, 0), (.int .u8 70, .dead, 0)] 16 :: .cells 3 [[iv 2]] true :: .cells 3 [[iv 3]] true :: .cells 3 [[iv 12]] true :: .map fL1 5 :: g
def fT1 (it : V) (g2 g3 g13 g14 g15 g16 g17 g18 g19 g20 g21 g22 g23 g24 : V) : List V := setT 68 [(0, sc (.map none)), (1, .mp 0), (2, g2), (3, g3), (9, .mp 0), (10, .mp 4), (11, .mp 4), (12, it), (13, g13), (14, g14), (15, g15), (16, g16), (17, g17), (18, g18), (19, g19), (20, g20), (21, g21), (22, g22), (23, g23), (24, g24)]
def fI1 (r : Nat) (rem : List Nat) (s : St) : Prop := ∃ (x0 x1 x2 x3 x4 : V) (g2 g3 g13 g14 g15 g16 g17 g18 g19 g20 g21 g22 g23 g24 : V) (g : H), (0 ∈ rem → x0 = .fn 170 [] [.ptr 1 0 0]) ∧ (1 ∈ rem → x1 = .fn 170 [] [.ptr 2 0 0]) ∧ (2 ∈ rem → x2 = .fn 93 [] []) ∧ (3 ∈ rem → x3 = .fn 96 [] []) ∧ (4 ∈ rem → x4 = .fn 169 [] [.ptr 3 0 0]) ∧ s = ⟨fT1 (itv r) g2 g3 g13 g14 g15 g16 g17 g18 g19 g20 g21 g22 g23 g24, fH1 x0 x1 x2 x3 x4 g⟩
noncomputable def c53 : Code := sq1 (sq2 (sq2 b53))
noncomputable def l53 : Code := inn (inn (sq2 c53))
noncomputable def m53 : Code := inn (sq2 (sq2 l53))
theorem c53_eq : c53 = .seq (.region 2 (rops (sq1 c53)) false) (.block 0 (.loop (.seq (.region 3 #[opAt (rops (sq1 l53)) 0, opAt (rops (sq1 l53)) 1] false)
  (.seq (.cond (.tmp 14) .skip (.exit 0)) (.block 1 (.seq (.region 4 (rops (sq1 m53)) false) (sq2 m53))))))) := by kernel_rfl

theorem f_round1 {r : Nat} {rem : List Nat} {s : St} {k : Nat} {e : Value × V × Nat} (hI : fI1 r rem s) (hk : k ∈ rem) (he : fL1[k]? = some e) :
    ∃ n s3 s4, runE Tryz.prog Of (rops (sq1 m53)) ((rops (sq1 m53)).toList.drop 1) ⟨((s.tm.set 13 (.tup [bv true, sc e.1, e.2.1])).set 14 (bv true)).set 15 (.tup [sc e.1, e.2.1]), s.h⟩ = some s3 ∧ s3.tm[12]? = some (itv r) ∧ s3.h[4]? = some (.map fL1 5) ∧
      evC Tryz.prog Of (iter n) (sq2 m53) s3 = some (.normal, s4) ∧ fI1 r (rem.filter (fun x => decide (x ≠ k))) s4 := by
  obtain ⟨x0, x1, x2, x3, x4, g2, g3, g13, g14, g15, g16, g17, g18, g19, g20, g21, g22, g23, g24, g, h0, h1, h2, h3, h4, rfl⟩ := hI
  have hk5 : k < 5 := by
    have := (List.getElem?_eq_some_iff.1 he).1
    simpa [fL1] using this
  have hc : k = 0 ∨ k = 1 ∨ k = 2 ∨ k = 3 ∨ k = 4 := by omega
  rcases hc with rfl | rfl | rfl | rfl | rfl <;> simp [fL1] at he <;> subst he
  · obtain rfl := h0 hk
    refine ⟨0, ⟨fT1 (itv r) (sc (.int .u8 49)) (iv 5) (.tup [bv true, sc (.int .u8 49), iv 5]) (bv true) (.tup [sc (.int .u8 49), iv 5]) (sc (.int .u8 49)) (iv 5) g18 g19 g20 g21 g22 g23 g24, fH1 (.fn 170 [] [.ptr 1 0 0]) x1 x2 x3 x4 g⟩, ⟨fT1 (itv r) (sc (.int .u8 49)) (iv 5) (.tup [bv true, sc (.int .u8 49), iv 5]) (bv true) (.tup [sc (.int .u8 49), iv 5]) (sc (.int .u8 49)) (iv 5) (.mp 0) (sc (.int .u8 49)) (iv 5) (.mp 0) (sc (.int .u8 49)) (.fn 170 [] [.ptr 1 0 0]) (.fn 171 [] [.ptr (fH1 (.fn 170 [] [.ptr 1 0 0]) x1 x2 x3 x4 g).length 0 0, .ptr ((fH1 (.fn 170 [] [.ptr 1 0 0]) x1 x2 x3 x4 g).length + 1) 0 0]), fH1 (.fn 171 [] [.ptr (fH1 (.fn 170 [] [.ptr 1 0 0]) x1 x2 x3 x4 g).length 0 0, .ptr ((fH1 (.fn 170 [] [.ptr 1 0 0]) x1 x2 x3 x4 g).length + 1) 0 0]) x1 x2 x3 x4 (g ++ [.cells 3 [[iv 5]] true, .cells 121 [[.fn 170 [] [.ptr 1 0 0]]] true])⟩, by kernel_rfl, by kernel_rfl, by kernel_rfl, by kernel_rfl, _, _, _, _, _, _, _, _, _, _, _, _, _, _, _, _, _, _, _, _, ?_, ?_, ?_, ?_, ?_, rfl⟩ <;> simp <;> assumption
  · obtain rfl := h1 hk
    refine ⟨0, ⟨fT1 (itv r) (sc (.int .u8 50)) (iv 6) (.tup [bv true, sc (.int .u8 50), iv 6]) (bv true) (.tup [sc (.int .u8 50), iv 6]) (sc (.int .u8 50)) (iv 6) g18 g19 g20 g21 g22 g23 g24, fH1 x0 (.fn 170 [] [.ptr 2 0 0]) x2 x3 x4 g⟩, ⟨fT1 (itv r) (sc (.int .u8 50)) (iv 6) (.tup [bv true, sc (.int .u8 50), iv 6]) (bv true) (.tup [sc (.int .u8 50), iv 6]) (sc (.int .u8 50)) (iv 6) (.mp 0) (sc (.int .u8 50)) (iv 6) (.mp 0) (sc (.int .u8 50)) (.fn 170 [] [.ptr 2 0 0]) (.fn 171 [] [.ptr (fH1 x0 (.fn 170 [] [.ptr 2 0 0]) x2 x3 x4 g).length 0 0, .ptr ((fH1 x0 (.fn 170 [] [.ptr 2 0 0]) x2 x3 x4 g).length + 1) 0 0]), fH1 x0 (.fn 171 [] [.ptr (fH1 x0 (.fn 170 [] [.ptr 2 0 0]) x2 x3 x4 g).length 0 0, .ptr ((fH1 x0 (.fn 170 [] [.ptr 2 0 0]) x2 x3 x4 g).length + 1) 0 0]) x2 x3 x4 (g ++ [.cells 3 [[iv 6]] true, .cells 121 [[.fn 170 [] [.ptr 2 0 0]]] true])⟩, by kernel_rfl, by kernel_rfl, by kernel_rfl, by kernel_rfl, _, _, _, _, _, _, _, _, _, _, _, _, _, _, _, _, _, _, _, _, ?_, ?_, ?_, ?_, ?_, rfl⟩ <;> simp <;> assumption
  · obtain rfl := h2 hk
    refine ⟨0, ⟨fT1 (itv r) (sc (.int .u8 53)) (iv 7) (.tup [bv true, sc (.int .u8 53), iv 7]) (bv true) (.tup [sc (.int .u8 53), iv 7]) (sc (.int .u8 53)) (iv 7) g18 g19 g20 g21 g22 g23 g24, fH1 x0 x1 (.fn 93 [] []) x3 x4 g⟩, ⟨fT1 (itv r) (sc (.int .u8 53)) (iv 7) (.tup [bv true, sc (.int .u8 53), iv 7]) (bv true) (.tup [sc (.int .u8 53), iv 7]) (sc (.int .u8 53)) (iv 7) (.mp 0) (sc (.int .u8 53)) (iv 7) (.mp 0) (sc (.int .u8 53)) (.fn 93 [] []) (.fn 171 [] [.ptr (fH1 x0 x1 (.fn 93 [] []) x3 x4 g).length 0 0, .ptr ((fH1 x0 x1 (.fn 93 [] []) x3 x4 g).length + 1) 0 0]), fH1 x0 x1 (.fn 171 [] [.ptr (fH1 x0 x1 (.fn 93 [] []) x3 x4 g).length 0 0, .ptr ((fH1 x0 x1 (.fn 93 [] []) x3 x4 g).length + 1) 0 0]) x3 x4 (g ++ [.cells 3 [[iv 7]] true, .cells 121 [[.fn 93 [] []]] true])⟩, by kernel_rfl, by kernel_rfl, by kernel_rfl, by kernel_rfl, _, _, _, _, _, _, _, _, _, _, _, _, _, _, _, _, _, _, _, _, ?_, ?_, ?_, ?_, ?_, rfl⟩ <;> simp <;> assumption
  · obtain rfl := h3 hk
    refine ⟨0, ⟨fT1 (itv r) (sc (.int .u8 54)) (iv 7) (.tup [bv true, sc (.int .u8 54), iv 7]) (bv true) (.tup [sc (.int .u8 54), iv 7]) (sc (.int .u8 54)) (iv 7) g18 g19 g20 g21 g22 g23 g24, fH1 x0 x1 x2 (.fn 96 [] []) x4 g⟩, ⟨fT1 (itv r) (sc (.int .u8 54)) (iv 7) (.tup [bv true, sc (.int .u8 54), iv 7]) (bv true) (.tup [sc (.int .u8 54), iv 7]) (sc (.int .u8 54)) (iv 7) (.mp 0) (sc (.int .u8 54)) (iv 7) (.mp 0) (sc (.int .u8 54)) (.fn 96 [] []) (.fn 171 [] [.ptr (fH1 x0 x1 x2 (.fn 96 [] []) x4 g).length 0 0, .ptr ((fH1 x0 x1 x2 (.fn 96 [] []) x4 g).length + 1) 0 0]), fH1 x0 x1 x2 (.fn 171 [] [.ptr (fH1 x0 x1 x2 (.fn 96 [] []) x4 g).length 0 0, .ptr ((fH1 x0 x1 x2 (.fn 96 [] []) x4 g).length + 1) 0 0]) x4 (g ++ [.cells 3 [[iv 7]] true, .cells 121 [[.fn 96 [] []]] true])⟩, by kernel_rfl, by kernel_rfl, by kernel_rfl, by kernel_rfl, _, _, _, _, _, _, _, _, _, _, _, _, _, _, _, _, _, _, _, _, ?_, ?_, ?_, ?_, ?_, rfl⟩ <;> simp <;> assumption
  · obtain rfl := h4 hk
    refine ⟨0, ⟨fT1 (itv r) (sc (.int .u8 65)) (iv 7) (.tup [bv true, sc (.int .u8 65), iv 7]) (bv true) (.tup [sc (.int .u8 65), iv 7]) (sc (.int .u8 65)) (iv 7) g18 g19 g20 g21 g22 g23 g24, fH1 x0 x1 x2 x3 (.fn 169 [] [.ptr 3 0 0]) g⟩, ⟨fT1 (itv r) (sc (.int .u8 65)) (iv 7) (.tup [bv true, sc (.int .u8 65), iv 7]) (bv true) (.tup [sc (.int .u8 65), iv 7]) (sc (.int .u8 65)) (iv 7) (.mp 0) (sc (.int .u8 65)) (iv 7) (.mp 0) (sc (.int .u8 65)) (.fn 169 [] [.ptr 3 0 0]) (.fn 171 [] [.ptr (fH1 x0 x1 x2 x3 (.fn 169 [] [.ptr 3 0 0]) g).length 0 0, .ptr ((fH1 x0 x1 x2 x3 (.fn 169 [] [.ptr 3 0 0]) g).length + 1) 0 0]), fH1 x0 x1 x2 x3 (.fn 171 [] [.ptr (fH1 x0 x1 x2 x3 (.fn 169 [] [.ptr 3 0 0]) g).length 0 0, .ptr ((fH1 x0 x1 x2 x3 (.fn 169 [] [.ptr 3 0 0]) g).length + 1) 0 0]) (g ++ [.cells 3 [[iv 7]] true, .cells 121 [[.fn 169 [] [.ptr 3 0 0]]] true])⟩, by kernel_rfl, by kernel_rfl, by kernel_rfl, by kernel_rfl, _, _, _, _, _, _, _, _, _, _, _, _, _, _, _, _, _, _, _, _, ?_, ?_, ?_, ?_, ?_, rfl⟩ <;> simp <;> assumption
def fA : St := ⟨setT 68 [(0, sc (.map none)), (1, .mp 0), (2, .dead), (3, .dead), (9, .dead), (10, .dead), (11, .dead), (12, .dead), (13, .dead), (14, .dead), (15, .dead), (16, .dead), (17, .dead), (18, .dead), (19, .dead), (20, .dead), (21, .dead), (22, .dead), (23, .dead), (24, .dead)], [.map [(.int .u8 48, .dead, 0), (.int .u8 49, .dead, 0), (.int .u8 50, .dead, 0), (.int .u8 51, .dead, 0), (.int .u8 52, .dead, 0), (.int .u8 53, .dead, 0), (.int .u8 54, .dead, 0), (.int .u8 55, .dead, 0), (.int .u8 56, .dead, 0), (.int .u8 57, .dead, 0), (.int .u8 65, .dead, 0), (.int .u8 66, .dead, 0), (.int .u8 67, .dead, 0), (.int .u8 68, .dead, 0), (.int .u8 69, .dead, 0), (.int .u8 70, .dead, 0)] 16]⟩
def fL2 : List (Value × V × Nat) := [(.int .i64 1, iv 8, 1), (.int .i64 2, iv 9, 2), (.int .i64 10, iv 10, 3), (.int .i64 11, iv 11, 4)]
def fH2 (y0 y1 y2 y3 : V) : H := [.map [(.int .u8 48, .dead, 0), (.int .u8 49, .dead, 0), (.int .u8 50, .dead, 0), (.int .u8 51, .dead, 0), (.int .u8 52, .dead, 0), (.int .u8 53, .dead, 0), (.int .u8 54, .dead, 0), (.int .u8 55, .dead, 0), (.int .u8 56, .dead, 0), (.int .u8 57, .dead, 0), (.int .u8 65, .dead, 0), (.int .u8 66, .dead, 0), (.int .u8 67, .dead, 0), (.int .u8 68, .dead, 0), (.int .u8 69, .dead, 0), (.int .u8 70, .dead, 0)] 16, .map [(.int .i64 1, y0, 0), (.int .i64 2, y1, 0), (.int .i64 3, .dead, 0), (.int .i64 4, .dead, 0), (.int .i64 5, .dead, 0), (.int .i64 6, .fn 181 [] [.ptr 4 0 0], 0), (.int .i64 7, .dead, 0), (.int .i64 8, .dead, 0), (.int .i64 9, .dead, 0), (.int .i64 10, y2, 0), (.int .i64 11, y3, 0), (.int .i64 12, .dead, 0), (.int .i64 13, .dead, 0), (.int .i64 14, .dead, 0)] 14, .cells 3 [[iv 4]] true, .cells 3 [[iv 5]] true, .cells 3 [[iv 34]] true, .cells 3 [[iv 13]] true, .cells 3 [[iv 14]] true, .map fL2 4]
def fT2 (it : V) : List V := setT 68 [(0, sc (.map none)), (1, .mp 0), (4, .mp 1), (28, it), (2, .dead), (3, .dead), (5, .dead), (6, .dead), (7, .dead), (9, .dead), (10, .dead), (11, .dead), (12, .dead), (13, .dead), (14, .dead), (15, .dead), (16, .dead), (17, .dead), (18, .dead), (19, .dead), (20, .dead), (21, .dead), (22, .dead), (23, .dead), (24, .dead), (25, .dead), (26, .dead), (27, .dead), (29, .dead), (30, .dead), (31, .dead), (32, .dead), (33, .dead), (34, .dead), (35, .dead), (36, .dead), (37, .dead), (38, .dead), (39, .dead)]
def fI2 (r : Nat) (rem : List Nat) (s : St) : Prop := ∃ y0 y1 y2 y3 : V, (y0 = .fn 181 [] [.ptr 2 0 0] ∨ y0 = .dead ∧ 0 ∉ rem) ∧ (y1 = .fn 181 [] [.ptr 3 0 0] ∨ y1 = .dead ∧ 1 ∉ rem) ∧ (y2 = .fn 181 [] [.ptr 5 0 0] ∨ y2 = .dead ∧ 2 ∉ rem) ∧ (y3 = .fn 181 [] [.ptr 6 0 0] ∨ y3 = .dead ∧ 3 ∉ rem) ∧ s = ⟨fT2 (itv r), fH2 y0 y1 y2 y3⟩
noncomputable def d53 : Code := sq1 (sq2 (sq2 (sq2 (sq2 b53))))
noncomputable def k53 : Code := inn (inn (sq2 d53))
noncomputable def n53 : Code := inn (sq2 (sq2 k53))
theorem b53_eq : b53 = .seq (sq1 b53) (.seq (sq1 (sq2 b53)) (.seq c53 (.seq (sq1 (sq2 (sq2 (sq2 b53)))) (.seq d53 (sq2 (sq2 (sq2 (sq2 (sq2 b53))))))))) := by kernel_rfl
theorem d53_eq : d53 = .seq (.region 7 (rops (sq1 d53)) false) (.block 2 (.loop (.seq (.region 8 #[opAt (rops (sq1 k53)) 0, opAt (rops (sq1 k53)) 1] false)
  (.seq (.cond (.tmp 30) .skip (.exit 2)) (.block 3 (.seq (.region 9 (rops (sq1 n53)) false) (sq2 n53))))))) := by kernel_rfl

theorem f_round2 {w0 : World} {Pr0 : Nat → Prop} {β0 : Bt} (hβ : β0.length ≤ 8) {r : Nat} {rem : List Nat} {s : St} {k : Nat} {e : Value × V × Nat} (hI : fI2 r rem s) (hk : k ∈ rem) (he : fL2[k]? = some e) :
    ∃ n s3 s4 s5, runE Tryz.prog Of (rops (sq1 n53)) ((rops (sq1 n53)).toList.drop 1) ⟨((s.tm.set 29 (.tup [bv true, sc e.1, e.2.1])).set 30 (bv true)).set 31 (.tup [sc e.1, e.2.1]), s.h⟩ = some s3 ∧ s3.tm[28]? = some (itv r) ∧ s3.h[7]? = some (.map fL2 4) ∧
      evC Tryz.prog Of (iter n) (sq2 n53) s3 = some (.normal, s4) ∧ s4.tm[28]? = some (itv r) ∧ s4.h[7]? = some (.map fL2 4) ∧
      (∀ a w, RelIt Tryz.prog w0 Pr0 β0 7 fL2 4 28 r (rem.filter (fun x => decide (x ≠ k))) (some k) s4 a w → RelIt Tryz.prog w0 Pr0 β0 7 fL2 4 28 r (rem.filter (fun x => decide (x ≠ k))) (some k) s5 a w) ∧ fI2 r (rem.filter (fun x => decide (x ≠ k))) s5 := by
  obtain ⟨y0, y1, y2, y3, h0, h1, h2, h3, rfl⟩ := hI
  have hk4 : k < 4 := by
    have := (List.getElem?_eq_some_iff.1 he).1
    simpa [fL2] using this
  have hc : k = 0 ∨ k = 1 ∨ k = 2 ∨ k = 3 := by omega
  rcases hc with rfl | rfl | rfl | rfl <;> simp [fL2] at he <;> subst he
  · have hy : y0 = .fn 181 [] [.ptr 2 0 0] := by
      rcases h0 with h | h
      · exact h
      · exact absurd hk h.2
    subst hy
    refine ⟨0, ⟨(((((((fT2 (itv r)).set 29 ((.tup [bv true, iv 1, iv 8]))).set 30 (bv true)).set 31 ((.tup [iv 1, iv 8]))).set 32 (iv 1)).set 33 (iv 8)).set 6 (.ptr 8 0 0)).set 5 (iv 1), fH2 (.fn 181 [] [.ptr 2 0 0]) y1 y2 y3 ++ [.cells 3 [[iv 8]] true]⟩, ⟨((((((((((((((fT2 (itv r)).set 29 ((.tup [bv true, iv 1, iv 8]))).set 30 (bv true)).set 31 ((.tup [iv 1, iv 8]))).set 32 (iv 1)).set 33 (iv 8)).set 6 (.ptr 8 0 0)).set 5 (iv 1)).set 34 (.mp 1)).set 35 (iv 1)).set 36 (.fn 181 [] [.ptr 2 0 0])).set 7 (.ptr 9 0 0)).set 37 (.mp 1)).set 38 (iv 1)).set 39 ((.fn 121 [] [.ptr 8 0 0, .ptr 9 0 0])), fH2 (.fn 121 [] [.ptr 8 0 0, .ptr 9 0 0]) y1 y2 y3 ++ [.cells 3 [[iv 8]] true, .cells 121 [[.fn 181 [] [.ptr 2 0 0]]] true]⟩, ⟨fT2 (itv r), fH2 .dead y1 y2 y3⟩, by kernel_rfl, by kernel_rfl, by kernel_rfl, by kernel_rfl, by kernel_rfl, by kernel_rfl, fun a w hr => hr.coarse (m := 8) (ks := [2, 3, 5, 6, 7, 9, 10, 11, 12, 13, 14, 15, 16, 17, 18, 19, 20, 21, 22, 23, 24, 25, 26, 27, 29, 30, 31, 32, 33, 34, 35, 36, 37, 38, 39]) (p := pX 1 1) hβ ?_ (by decide) (by kernel_rfl) (by kernel_rfl), _, _, _, _, ?_, ?_, ?_, ?_, rfl⟩
    · rcases h1 with rfl | ⟨rfl, _⟩ <;> rcases h2 with rfl | ⟨rfl, _⟩ <;> rcases h3 with rfl | ⟨rfl, _⟩ <;> kernel_rfl
    · right; simp
    · rcases h1 with h | h
      · exact .inl h
      · exact .inr ⟨h.1, by simp [h.2]⟩
    · rcases h2 with h | h
      · exact .inl h
      · exact .inr ⟨h.1, by simp [h.2]⟩
    · rcases h3 with h | h
      · exact .inl h
      · exact .inr ⟨h.1, by simp [h.2]⟩
  · have hy : y1 = .fn 181 [] [.ptr 3 0 0] := by
      rcases h1 with h | h
      · exact h
      · exact absurd hk h.2
    subst hy
    refine ⟨0, ⟨(((((((fT2 (itv r)).set 29 ((.tup [bv true, iv 2, iv 9]))).set 30 (bv true)).set 31 ((.tup [iv 2, iv 9]))).set 32 (iv 2)).set 33 (iv 9)).set 6 (.ptr 8 0 0)).set 5 (iv 2), fH2 y0 (.fn 181 [] [.ptr 3 0 0]) y2 y3 ++ [.cells 3 [[iv 9]] true]⟩, ⟨((((((((((((((fT2 (itv r)).set 29 ((.tup [bv true, iv 2, iv 9]))).set 30 (bv true)).set 31 ((.tup [iv 2, iv 9]))).set 32 (iv 2)).set 33 (iv 9)).set 6 (.ptr 8 0 0)).set 5 (iv 2)).set 34 (.mp 1)).set 35 (iv 2)).set 36 (.fn 181 [] [.ptr 3 0 0])).set 7 (.ptr 9 0 0)).set 37 (.mp 1)).set 38 (iv 2)).set 39 ((.fn 121 [] [.ptr 8 0 0, .ptr 9 0 0])), fH2 y0 (.fn 121 [] [.ptr 8 0 0, .ptr 9 0 0]) y2 y3 ++ [.cells 3 [[iv 9]] true, .cells 121 [[.fn 181 [] [.ptr 3 0 0]]] true]⟩, ⟨fT2 (itv r), fH2 y0 .dead y2 y3⟩, by kernel_rfl, by kernel_rfl, by kernel_rfl, by kernel_rfl, by kernel_rfl, by kernel_rfl, fun a w hr => hr.coarse (m := 8) (ks := [2, 3, 5, 6, 7, 9, 10, 11, 12, 13, 14, 15, 16, 17, 18, 19, 20, 21, 22, 23, 24, 25, 26, 27, 29, 30, 31, 32, 33, 34, 35, 36, 37, 38, 39]) (p := pX 1 2) hβ ?_ (by decide) (by kernel_rfl) (by kernel_rfl), _, _, _, _, ?_, ?_, ?_, ?_, rfl⟩
    · rcases h0 with rfl | ⟨rfl, _⟩ <;> rcases h2 with rfl | ⟨rfl, _⟩ <;> rcases h3 with rfl | ⟨rfl, _⟩ <;> kernel_rfl
    · rcases h0 with h | h
      · exact .inl h
      · exact .inr ⟨h.1, by simp [h.2]⟩
    · right; simp
    · rcases h2 with h | h
      · exact .inl h
      · exact .inr ⟨h.1, by simp [h.2]⟩
    · rcases h3 with h | h
      · exact .inl h
      · exact .inr ⟨h.1, by simp [h.2]⟩
  · have hy : y2 = .fn 181 [] [.ptr 5 0 0] := by
      rcases h2 with h | h
      · exact h
      · exact absurd hk h.2
    subst hy
    refine ⟨0, ⟨(((((((fT2 (itv r)).set 29 ((.tup [bv true, iv 10, iv 10]))).set 30 (bv true)).set 31 ((.tup [iv 10, iv 10]))).set 32 (iv 10)).set 33 (iv 10)).set 6 (.ptr 8 0 0)).set 5 (iv 10), fH2 y0 y1 (.fn 181 [] [.ptr 5 0 0]) y3 ++ [.cells 3 [[iv 10]] true]⟩, ⟨((((((((((((((fT2 (itv r)).set 29 ((.tup [bv true, iv 10, iv 10]))).set 30 (bv true)).set 31 ((.tup [iv 10, iv 10]))).set 32 (iv 10)).set 33 (iv 10)).set 6 (.ptr 8 0 0)).set 5 (iv 10)).set 34 (.mp 1)).set 35 (iv 10)).set 36 (.fn 181 [] [.ptr 5 0 0])).set 7 (.ptr 9 0 0)).set 37 (.mp 1)).set 38 (iv 10)).set 39 ((.fn 121 [] [.ptr 8 0 0, .ptr 9 0 0])), fH2 y0 y1 (.fn 121 [] [.ptr 8 0 0, .ptr 9 0 0]) y3 ++ [.cells 3 [[iv 10]] true, .cells 121 [[.fn 181 [] [.ptr 5 0 0]]] true]⟩, ⟨fT2 (itv r), fH2 y0 y1 .dead y3⟩, by kernel_rfl, by kernel_rfl, by kernel_rfl, by kernel_rfl, by kernel_rfl, by kernel_rfl, fun a w hr => hr.coarse (m := 8) (ks := [2, 3, 5, 6, 7, 9, 10, 11, 12, 13, 14, 15, 16, 17, 18, 19, 20, 21, 22, 23, 24, 25, 26, 27, 29, 30, 31, 32, 33, 34, 35, 36, 37, 38, 39]) (p := pX 1 10) hβ ?_ (by decide) (by kernel_rfl) (by kernel_rfl), _, _, _, _, ?_, ?_, ?_, ?_, rfl⟩
    · rcases h0 with rfl | ⟨rfl, _⟩ <;> rcases h1 with rfl | ⟨rfl, _⟩ <;> rcases h3 with rfl | ⟨rfl, _⟩ <;> kernel_rfl
    · rcases h0 with h | h
      · exact .inl h
      · exact .inr ⟨h.1, by simp [h.2]⟩
    · rcases h1 with h | h
      · exact .inl h
      · exact .inr ⟨h.1, by simp [h.2]⟩
    · right; simp
    · rcases h3 with h | h
      · exact .inl h
      · exact .inr ⟨h.1, by simp [h.2]⟩
  · have hy : y3 = .fn 181 [] [.ptr 6 0 0] := by
      rcases h3 with h | h
      · exact h
      · exact absurd hk h.2
    subst hy
    refine ⟨0, ⟨(((((((fT2 (itv r)).set 29 ((.tup [bv true, iv 11, iv 11]))).set 30 (bv true)).set 31 ((.tup [iv 11, iv 11]))).set 32 (iv 11)).set 33 (iv 11)).set 6 (.ptr 8 0 0)).set 5 (iv 11), fH2 y0 y1 y2 (.fn 181 [] [.ptr 6 0 0]) ++ [.cells 3 [[iv 11]] true]⟩, ⟨((((((((((((((fT2 (itv r)).set 29 ((.tup [bv true, iv 11, iv 11]))).set 30 (bv true)).set 31 ((.tup [iv 11, iv 11]))).set 32 (iv 11)).set 33 (iv 11)).set 6 (.ptr 8 0 0)).set 5 (iv 11)).set 34 (.mp 1)).set 35 (iv 11)).set 36 (.fn 181 [] [.ptr 6 0 0])).set 7 (.ptr 9 0 0)).set 37 (.mp 1)).set 38 (iv 11)).set 39 ((.fn 121 [] [.ptr 8 0 0, .ptr 9 0 0])), fH2 y0 y1 y2 (.fn 121 [] [.ptr 8 0 0, .ptr 9 0 0]) ++ [.cells 3 [[iv 11]] true, .cells 121 [[.fn 181 [] [.ptr 6 0 0]]] true]⟩, ⟨fT2 (itv r), fH2 y0 y1 y2 .dead⟩, by kernel_rfl, by kernel_rfl, by kernel_rfl, by kernel_rfl, by kernel_rfl, by kernel_rfl, fun a w hr => hr.coarse (m := 8) (ks := [2, 3, 5, 6, 7, 9, 10, 11, 12, 13, 14, 15, 16, 17, 18, 19, 20, 21, 22, 23, 24, 25, 26, 27, 29, 30, 31, 32, 33, 34, 35, 36, 37, 38, 39]) (p := pX 1 11) hβ ?_ (by decide) (by kernel_rfl) (by kernel_rfl), _, _, _, _, ?_, ?_, ?_, ?_, rfl⟩
    · rcases h0 with rfl | ⟨rfl, _⟩ <;> rcases h1 with rfl | ⟨rfl, _⟩ <;> rcases h2 with rfl | ⟨rfl, _⟩ <;> kernel_rfl
    · rcases h0 with h | h
      · exact .inl h
      · exact .inr ⟨h.1, by simp [h.2]⟩
    · rcases h1 with h | h
      · exact .inl h
      · exact .inr ⟨h.1, by simp [h.2]⟩
    · rcases h2 with h | h
      · exact .inl h
      · exact .inr ⟨h.1, by simp [h.2]⟩
    · right; simp

def fastR : V × H := (.mp 0, [.map [(.int .u8 48, .dead, 0), (.int .u8 49, .dead, 0), (.int .u8 50, .dead, 0), (.int .u8 51, .dead, 0), (.int .u8 52, .dead, 0), (.int .u8 53, .dead, 0), (.int .u8 54, .dead, 0), (.int .u8 55, .dead, 0), (.int .u8 56, .dead, 0), (.int .u8 57, .dead, 0), (.int .u8 65, .dead, 0), (.int .u8 66, .dead, 0), (.int .u8 67, .dead, 0), (.int .u8 68, .dead, 0), (.int .u8 69, .fn 173 [] [.ptr 1 0 0], 0), (.int .u8 70, .dead, 0), (.int .u8 71, .dead, 17), (.int .u8 72, .dead, 18), (.int .u8 75, .dead, 19), (.int .u8 76, .dead, 20), (.int .u8 80, .dead, 21), (.int .u8 82, .dead, 22), (.int .u8 84, .dead, 23), (.int .u8 88, .dead, 24)] 24, .cells 136 [[.mp 2]] true, .map [(.int .i64 1, .dead, 0), (.int .i64 2, .dead, 0), (.int .i64 3, .dead, 0), (.int .i64 4, .dead, 0), (.int .i64 5, .dead, 0), (.int .i64 6, .fn 181 [] [.ptr 3 0 0], 0), (.int .i64 7, .dead, 0), (.int .i64 8, .dead, 0), (.int .i64 9, .dead, 0), (.int .i64 10, .dead, 0), (.int .i64 11, .dead, 0), (.int .i64 12, .dead, 0), (.int .i64 13, .dead, 0), (.int .i64 14, .dead, 0)] 14, .cells 3 [[iv 34]] true])

set_option maxHeartbeats 800000 in
theorem fast_run : Callable Tryz.prog 53 ∧ Run Tryz.prog 53 [] [] fastR.1 fastR.2 := by
  refine fn_run Tryz.func53 (c := b53) (by kernel_rfl) (by kernel_rfl) fun w0 Pr0 β0 a w Q hβ hr hfin => ?_
  have hβ0 : β0.length ≤ 0 := by simp [hβ]
  have hβ8 : β0.length ≤ 8 := by omega
  rw [b53_eq, c53_eq, d53_eq]
  have hr : Rel Tryz.prog w0 Pr0 β0 ⟨List.replicate 68 uv, []⟩ a w := hr
  refine wp_seq (evC_wp follows_mixed Of_sound 0 _ _ .normal ⟨setT 68 [(0, sc (.map none))], []⟩ a w _ (by kernel_rfl) hr fun a w hr => ?_)
  refine wp_seq (evC_wp follows_mixed Of_sound 0 _ _ .normal ⟨setT 68 [(0, sc (.map none)), (1, .mp 0), (9, .mp 0)], fC51.2⟩ a w _ (by kernel_rfl) hr fun a w hr => ?_)
  refine wp_seq (wp_seq (rangeReg_wp Of_sound (pre := (rops (sq1 c53)).toList.dropLast) (o := opAt (rops (sq1 c53)) 7) (by kernel_rfl) (T := 140) (kt := 5) (et := 3) (tM := 11) (tIt := 12) (by kernel_rfl) (by kernel_rfl) (by kernel_rfl) (by kernel_rfl)
    (s1 := ⟨setT 68 [(0, sc (.map none)), (1, .mp 0), (9, .mp 0), (10, .mp 4), (11, .mp 4)], fC51.2 ++ [.map fL1 5]⟩) (i := 4) (es := fL1) (c := 5) hr (by kernel_rfl) (by kernel_rfl) (by kernel_rfl) (by decide) (by decide) fun r a w hr => ?_))
  refine maploop_wp follows_mixed Of_sound (ops2 := rops (sq1 m53)) (p1 := opAt (rops (sq1 m53)) 0) (ps := (rops (sq1 m53)).toList.drop 1) (tIt := 12) (tN := 13) (tOk := 14) (tE := 15) (N := 68) (by kernel_rfl) (by kernel_rfl) (by kernel_rfl) (by kernel_rfl) (by kernel_rfl) (by kernel_rfl) (by kernel_rfl) (by kernel_rfl) (by kernel_rfl) (by kernel_rfl)
    (by decide) (by decide) (by decide) (by decide) (by decide) (i := 4) (es := fL1) (c := 5) (r := r) (by decide) (Inv := fI1 r) (fun rem s hI => ?_) (fun rem s k e hI hk he => f_round1 hI hk he) (fun rem s a w hI hno hr => ?_) (rem := List.range fL1.length) ?_ hr
  · obtain ⟨x0, x1, x2, x3, x4, g2, g3, g13, g14, g15, g16, g17, g18, g19, g20, g21, g22, g23, g24, g, h0, h1, h2, h3, h4, rfl⟩ := hI
    exact ⟨by kernel_rfl, by kernel_rfl, by kernel_rfl⟩
  · obtain ⟨x0, x1, x2, x3, x4, g2, g3, g13, g14, g15, g16, g17, g18, g19, g20, g21, g22, g23, g24, g, h0, h1, h2, h3, h4, rfl⟩ := hI
    have hr := hr.coarse (m := 0) (ks := [2, 3, 9, 10, 11, 12, 13, 14, 15, 16, 17, 18, 19, 20, 21, 22, 23, 24]) (p := fun _ _ => false) (s' := fA) hβ0 (by kernel_rfl)
    clear hno h0 h1 h2 h3 h4
    refine wp_seq (evC_wp follows_mixed Of_sound 0 _ _ .normal ⟨(fA.tm.set 25 (.mp 1)).set 4 (.mp 1), (fH2 (.fn 181 [] [.ptr 2 0 0]) (.fn 181 [] [.ptr 3 0 0]) (.fn 181 [] [.ptr 5 0 0]) (.fn 181 [] [.ptr 6 0 0])).take 7⟩ a w _ (by kernel_rfl) hr fun a w hr => ?_)
    refine wp_seq (wp_seq (rangeReg_wp Of_sound (pre := (rops (sq1 d53)).toList.dropLast) (o := opAt (rops (sq1 d53)) 6) (by kernel_rfl) (T := 141) (kt := 3) (et := 3) (tM := 27) (tIt := 28) (by kernel_rfl) (by kernel_rfl) (by kernel_rfl) (by kernel_rfl)
      (s1 := ⟨(((fA.tm.set 25 (.mp 1)).set 4 (.mp 1)).set 26 (.mp 7)).set 27 (.mp 7), fH2 (.fn 181 [] [.ptr 2 0 0]) (.fn 181 [] [.ptr 3 0 0]) (.fn 181 [] [.ptr 5 0 0]) (.fn 181 [] [.ptr 6 0 0])⟩) (i := 7) (es := fL2) (c := 4) hr (by kernel_rfl) (by kernel_rfl) (by kernel_rfl) (by decide) (by decide) fun r a w hr => ?_))
    have hr := hr.coarse (m := 8) (ks := [2, 3, 5, 6, 7, 9, 10, 11, 12, 13, 14, 15, 16, 17, 18, 19, 20, 21, 22, 23, 24, 25, 26, 27, 29, 30, 31, 32, 33, 34, 35, 36, 37, 38, 39]) (p := fun _ _ => true) (s' := ⟨fT2 (itv r), fH2 (.fn 181 [] [.ptr 2 0 0]) (.fn 181 [] [.ptr 3 0 0]) (.fn 181 [] [.ptr 5 0 0]) (.fn 181 [] [.ptr 6 0 0])⟩) hβ8 (by kernel_rfl) (by decide) (by kernel_rfl) (by kernel_rfl)
    refine maploop_wp2 follows_mixed Of_sound (ops2 := rops (sq1 n53)) (p1 := opAt (rops (sq1 n53)) 0) (ps := (rops (sq1 n53)).toList.drop 1) (tIt := 28) (tN := 29) (tOk := 30) (tE := 31) (N := 68) (by kernel_rfl) (by kernel_rfl) (by kernel_rfl) (by kernel_rfl) (by kernel_rfl) (by kernel_rfl) (by kernel_rfl) (by kernel_rfl) (by kernel_rfl) (by kernel_rfl)
      (by decide) (by decide) (by decide) (by decide) (by decide) (i := 7) (es := fL2) (c := 4) (r := r) (by decide) (Inv := fI2 r) (fun rem s hI => ?_) (fun rem s k e hI hk he => f_round2 hβ8 hI hk he) (fun rem s a w hI hno hr => ?_) (rem := List.range fL2.length) ⟨_, _, _, _, .inl rfl, .inl rfl, .inl rfl, .inl rfl, by kernel_rfl⟩ hr
    · obtain ⟨y0, y1, y2, y3, h0, h1, h2, h3, rfl⟩ := hI
      exact ⟨by kernel_rfl, by kernel_rfl, by kernel_rfl⟩
    · obtain ⟨y0, y1, y2, y3, h0, h1, h2, h3, rfl⟩ := hI
      have hr := hr.coarse (m := 0) (ks := [28, 29, 30]) (p := pI [(1, [6])]) (s' := ⟨setT 68 [(0, sc (.map none)), (1, .mp 0), (4, .mp 1), (2, .dead), (3, .dead), (5, .dead), (6, .dead), (7, .dead), (9, .dead), (10, .dead), (11, .dead), (12, .dead), (13, .dead), (14, .dead), (15, .dead), (16, .dead), (17, .dead), (18, .dead), (19, .dead), (20, .dead), (21, .dead), (22, .dead), (23, .dead), (24, .dead), (25, .dead), (26, .dead), (27, .dead), (29, .dead), (30, .dead), (31, .dead), (32, .dead), (33, .dead), (34, .dead), (35, .dead), (36, .dead), (37, .dead), (38, .dead), (39, .dead), (28, .dead)], [.map [(.int .u8 48, .dead, 0), (.int .u8 49, .dead, 0), (.int .u8 50, .dead, 0), (.int .u8 51, .dead, 0), (.int .u8 52, .dead, 0), (.int .u8 53, .dead, 0), (.int .u8 54, .dead, 0), (.int .u8 55, .dead, 0), (.int .u8 56, .dead, 0), (.int .u8 57, .dead, 0), (.int .u8 65, .dead, 0), (.int .u8 66, .dead, 0), (.int .u8 67, .dead, 0), (.int .u8 68, .dead, 0), (.int .u8 69, .dead, 0), (.int .u8 70, .dead, 0)] 16, .map [(.int .i64 1, .dead, 0), (.int .i64 2, .dead, 0), (.int .i64 3, .dead, 0), (.int .i64 4, .dead, 0), (.int .i64 5, .dead, 0), (.int .i64 6, .fn 181 [] [.ptr 2 0 0], 0), (.int .i64 7, .dead, 0), (.int .i64 8, .dead, 0), (.int .i64 9, .dead, 0), (.int .i64 10, .dead, 0), (.int .i64 11, .dead, 0), (.int .i64 12, .dead, 0), (.int .i64 13, .dead, 0), (.int .i64 14, .dead, 0)] 14, .cells 3 [[iv 34]] true]⟩) hβ0 (by kernel_rfl)
      refine evC_coarse (ex := .ret) follows_mixed Of_sound (n := 60) (m := 0) (ks := [1, 2, 3, 4, 5, 6, 7, 8, 9, 10, 11, 12, 13, 14, 15, 16, 17, 18, 19, 20, 21, 22, 23, 24, 25, 26, 27, 28, 29, 30, 31, 32, 33, 34, 35, 36, 37, 38, 39, 40, 41, 42, 43, 44, 45, 46, 47, 48, 49, 50, 51, 52, 53, 54, 55, 56, 57, 58, 59, 60, 61, 62, 63, 64, 65, 66, 67]) (p := pI [(0, [69]), (2, [6]), (1, [6])]) (s' := ⟨setT 68 ([(0, .mp 0)] ++ (List.range 67).map fun i => (i + 1, V.dead)), fastR.2⟩) (by kernel_rfl) hβ0 hr fun a w hr => hfin .ret _ a w (by simp) (by kernel_rfl) hr
  · exact ⟨_, _, _, _, _, uv, uv, uv, uv, uv, uv, uv, uv, uv, uv, uv, uv, uv, uv, [], fun _ => rfl, fun _ => rfl, fun _ => rfl, fun _ => rfl, fun _ => rfl, by kernel_rfl⟩

end Go.Ab
