/- What single functions of the program and of the reference answer, for the inputs that OrderLoops hands them. -/
import Derived.Test.YthbnhmmdafkcfaaGreatEngG
import Derived.Test.YthbnhmmdafkcfaaGreatProg
import Derived.Lib.Strings
import Derived.Lib.Slices
import Derived.Lib.Walk
import Derived.Lib.Bytealg
set_option linter.unusedVariables false
set_option linter.unusedSimpArgs false
namespace Go.Ab
open Go.Proofs
set_option maxRecDepth 100000

theorem follows_mixed : Tryz.prog.follows .mixedOrders = true := by kernel_rfl

def limEs : List (Value × V × Nat) := [(.int .i64 1, iv 15, 1), (.int .i64 18, iv 65535, 2), (.int .i64 15, iv 64, 3), (.int .i64 30, iv 64, 4), (.int .i64 16, iv 256, 5), (.int .i64 28, iv 128, 6), (.int .i64 41, iv 2, 7), (.int .i64 40, iv 3, 8),
  (.int .i64 42, iv 127, 9), (.int .i64 43, iv 127, 10), (.int .i64 47, iv 31, 11), (.int .i64 48, iv 15, 12), (.int .i64 25, iv 3, 13), (.int .i64 26, iv 3, 14), (.int .i64 24, iv 1, 15), (.int .i64 27, iv 127, 16)]

def limR (rem : List Nat) (k : Nat) (n : Int) : V := iv (if k ∈ rem then 255 else n)
def limC (rem : List Nat) : List V := [iv 255, limR rem 0 15, iv 255, iv 255, iv 255, iv 255, iv 255, iv 255, iv 255, iv 255, iv 255, iv 255, iv 255, iv 255, iv 255, limR rem 2 64, limR rem 4 256, iv 255, limR rem 1 65535,
  iv 255, iv 255, iv 255, iv 255, iv 255, limR rem 14 1, limR rem 12 3, limR rem 13 3, limR rem 15 127, limR rem 5 128, iv 255, limR rem 3 64, iv 255, iv 255, iv 255, iv 255, iv 255, iv 255, iv 255, iv 255, iv 255, limR rem 7 3, limR rem 6 2, limR rem 8 127, limR rem 9 127, iv 255, iv 255, iv 255, limR rem 10 31, limR rem 11 15]
def limV : List V := [iv 255, iv 15, iv 255, iv 255, iv 255, iv 255, iv 255, iv 255, iv 255, iv 255, iv 255, iv 255, iv 255, iv 255, iv 255, iv 64, iv 256, iv 255, iv 65535,
  iv 255, iv 255, iv 255, iv 255, iv 255, iv 1, iv 3, iv 3, iv 127, iv 128, iv 255, iv 64, iv 255, iv 255, iv 255, iv 255, iv 255, iv 255, iv 255, iv 255, iv 255, iv 3, iv 2, iv 127, iv 127, iv 255, iv 255, iv 255, iv 31, iv 15]
def limT (g3 g4 t11 t12 t13 g14 g15 g16 g17 g18 g19 g20 g21 : V) : List V := [.ptr 0 0 0, .ptr 1 0 0, iv 48, g3, g4, iv 49, bv false, iv 48, iv 48, .ptr 1 0 48, iv 49, t11, t12, t13, g14, g15, g16, g17, g18, g19, g20, g21, uv]
def limH (rem : List Nat) : H := [.cells 124 [List.replicate 49 (iv 0)] true, .cells 124 [limC rem] true, .map limEs 16]
def limI (r : Nat) (rem : List Nat) (s : St) : Prop := ∃ g3 g4 g14 g15 g16 g17 g18 g19 g20 g21, s = ⟨limT g3 g4 (.mp 2) (.mp 2) (itv r) g14 g15 g16 g17 g18 g19 g20 g21, limH rem⟩

theorem ty3 : tyI Tryz.prog 3 = some ⟨.int .i64, 1, 8, [iv 0], none, iv 0⟩ := by kernel_rfl
theorem ty124 : tyI Tryz.prog 124 = some ⟨.arr 49 3, 49, 392, List.replicate 49 (iv 0), some (List.replicate 49 (.i .i64)), .agg (List.replicate 49 (iv 0))⟩ := by kernel_rfl

noncomputable def b74 : Code := Tryz.f74.body.getD .skip

noncomputable def c74 : Code := sq1 (sq2 (sq2 (sq2 b74)))
noncomputable def l74 : Code := inn (inn (sq2 c74))
noncomputable def m74 : Code := inn (sq2 (sq2 l74))
theorem b74_eq : b74 = .seq (sq1 b74) (.seq (sq1 (sq2 b74)) (.seq (sq1 (sq2 (sq2 b74))) (.seq (.seq (.region 7 (rops (sq1 c74)) false) (.block 2 (.loop (.seq (.region 8 #[opAt (rops (sq1 l74)) 0, opAt (rops (sq1 l74)) 1] false)
  (.seq (.cond (.tmp 15) .skip (.exit 2)) (.block 3 (.seq (.region 9 (rops (sq1 m74)) false) (sq2 m74)))))))) (sq2 (sq2 (sq2 (sq2 b74))))))) := by kernel_rfl

theorem limI_of {r : Nat} {rem : List Nat} {c : List V} (hc : limC rem = c) {g3 g4 g14 g15 g16 g17 g18 g19 g20 g21 : V} : limI r rem ⟨limT g3 g4 (.mp 2) (.mp 2) (itv r) g14 g15 g16 g17 g18 g19 g20 g21, [.cells 124 [List.replicate 49 (iv 0)] true, .cells 124 [c] true, .map limEs 16]⟩ := by
  subst hc
  exact ⟨_, _, _, _, _, _, _, _, _, _, rfl⟩

theorem lim_round {O : Orc} {r : Nat} {rem : List Nat} {s : St} {k : Nat} {e : Value × V × Nat} (hI : limI r rem s) (hk : k ∈ rem) (he : limEs[k]? = some e) :
    ∃ n s3 s4, runE Tryz.prog O (rops (sq1 m74)) ((rops (sq1 m74)).toList.drop 1) ⟨((s.tm.set 14 (.tup [bv true, sc e.1, e.2.1])).set 15 (bv true)).set 16 (.tup [sc e.1, e.2.1]), s.h⟩ = some s3 ∧ s3.tm[13]? = some (itv r) ∧ s3.h[2]? = some (.map limEs 16) ∧
      evC Tryz.prog O (iter n) (sq2 m74) s3 = some (.normal, s4) ∧ limI r (rem.filter (fun x => decide (x ≠ k))) s4 := by
  obtain ⟨g3, g4, g14, g15, g16, g17, g18, g19, g20, g21, rfl⟩ := hI
  have hk : k < 16 := by
    have := (List.getElem?_eq_some_iff.1 he).1
    simpa [limEs] using this
  have hc : k = 0 ∨ k = 1 ∨ k = 2 ∨ k = 3 ∨ k = 4 ∨ k = 5 ∨ k = 6 ∨ k = 7 ∨ k = 8 ∨ k = 9 ∨ k = 10 ∨ k = 11 ∨ k = 12 ∨ k = 13 ∨ k = 14 ∨ k = 15 := by omega
  rcases hc with rfl | rfl | rfl | rfl | rfl | rfl | rfl | rfl | rfl | rfl | rfl | rfl | rfl | rfl | rfl | rfl <;> simp [limEs] at he <;> subst he
  · exact ⟨0, ⟨limT (iv 1) (iv 15) (.mp 2) (.mp 2) (itv r) (.tup [bv true, iv 1, iv 15]) (bv true) (.tup [iv 1, iv 15]) (iv 1) (iv 15) g19 g20 g21, limH rem⟩,
      ⟨limT (iv 1) (iv 15) (.mp 2) (.mp 2) (itv r) (.tup [bv true, iv 1, iv 15]) (bv true) (.tup [iv 1, iv 15]) (iv 1) (iv 15) (iv 1) (iv 15) (.ptr 1 0 1), [.cells 124 [List.replicate 49 (iv 0)] true, .cells 124 [(limC rem).set 1 (iv 15)] true, .map limEs 16]⟩, by kernel_rfl, by kernel_rfl, by kernel_rfl, by kernel_rfl, limI_of (by simp [limC, limR])⟩
  · exact ⟨0, ⟨limT (iv 18) (iv 65535) (.mp 2) (.mp 2) (itv r) (.tup [bv true, iv 18, iv 65535]) (bv true) (.tup [iv 18, iv 65535]) (iv 18) (iv 65535) g19 g20 g21, limH rem⟩,
      ⟨limT (iv 18) (iv 65535) (.mp 2) (.mp 2) (itv r) (.tup [bv true, iv 18, iv 65535]) (bv true) (.tup [iv 18, iv 65535]) (iv 18) (iv 65535) (iv 18) (iv 65535) (.ptr 1 0 18), [.cells 124 [List.replicate 49 (iv 0)] true, .cells 124 [(limC rem).set 18 (iv 65535)] true, .map limEs 16]⟩, by kernel_rfl, by kernel_rfl, by kernel_rfl, by kernel_rfl, limI_of (by simp [limC, limR])⟩
  · exact ⟨0, ⟨limT (iv 15) (iv 64) (.mp 2) (.mp 2) (itv r) (.tup [bv true, iv 15, iv 64]) (bv true) (.tup [iv 15, iv 64]) (iv 15) (iv 64) g19 g20 g21, limH rem⟩,
      ⟨limT (iv 15) (iv 64) (.mp 2) (.mp 2) (itv r) (.tup [bv true, iv 15, iv 64]) (bv true) (.tup [iv 15, iv 64]) (iv 15) (iv 64) (iv 15) (iv 64) (.ptr 1 0 15), [.cells 124 [List.replicate 49 (iv 0)] true, .cells 124 [(limC rem).set 15 (iv 64)] true, .map limEs 16]⟩, by kernel_rfl, by kernel_rfl, by kernel_rfl, by kernel_rfl, limI_of (by simp [limC, limR])⟩
  · exact ⟨0, ⟨limT (iv 30) (iv 64) (.mp 2) (.mp 2) (itv r) (.tup [bv true, iv 30, iv 64]) (bv true) (.tup [iv 30, iv 64]) (iv 30) (iv 64) g19 g20 g21, limH rem⟩,
      ⟨limT (iv 30) (iv 64) (.mp 2) (.mp 2) (itv r) (.tup [bv true, iv 30, iv 64]) (bv true) (.tup [iv 30, iv 64]) (iv 30) (iv 64) (iv 30) (iv 64) (.ptr 1 0 30), [.cells 124 [List.replicate 49 (iv 0)] true, .cells 124 [(limC rem).set 30 (iv 64)] true, .map limEs 16]⟩, by kernel_rfl, by kernel_rfl, by kernel_rfl, by kernel_rfl, limI_of (by simp [limC, limR])⟩
  · exact ⟨0, ⟨limT (iv 16) (iv 256) (.mp 2) (.mp 2) (itv r) (.tup [bv true, iv 16, iv 256]) (bv true) (.tup [iv 16, iv 256]) (iv 16) (iv 256) g19 g20 g21, limH rem⟩,
      ⟨limT (iv 16) (iv 256) (.mp 2) (.mp 2) (itv r) (.tup [bv true, iv 16, iv 256]) (bv true) (.tup [iv 16, iv 256]) (iv 16) (iv 256) (iv 16) (iv 256) (.ptr 1 0 16), [.cells 124 [List.replicate 49 (iv 0)] true, .cells 124 [(limC rem).set 16 (iv 256)] true, .map limEs 16]⟩, by kernel_rfl, by kernel_rfl, by kernel_rfl, by kernel_rfl, limI_of (by simp [limC, limR])⟩
  · exact ⟨0, ⟨limT (iv 28) (iv 128) (.mp 2) (.mp 2) (itv r) (.tup [bv true, iv 28, iv 128]) (bv true) (.tup [iv 28, iv 128]) (iv 28) (iv 128) g19 g20 g21, limH rem⟩,
      ⟨limT (iv 28) (iv 128) (.mp 2) (.mp 2) (itv r) (.tup [bv true, iv 28, iv 128]) (bv true) (.tup [iv 28, iv 128]) (iv 28) (iv 128) (iv 28) (iv 128) (.ptr 1 0 28), [.cells 124 [List.replicate 49 (iv 0)] true, .cells 124 [(limC rem).set 28 (iv 128)] true, .map limEs 16]⟩, by kernel_rfl, by kernel_rfl, by kernel_rfl, by kernel_rfl, limI_of (by simp [limC, limR])⟩
  · exact ⟨0, ⟨limT (iv 41) (iv 2) (.mp 2) (.mp 2) (itv r) (.tup [bv true, iv 41, iv 2]) (bv true) (.tup [iv 41, iv 2]) (iv 41) (iv 2) g19 g20 g21, limH rem⟩,
      ⟨limT (iv 41) (iv 2) (.mp 2) (.mp 2) (itv r) (.tup [bv true, iv 41, iv 2]) (bv true) (.tup [iv 41, iv 2]) (iv 41) (iv 2) (iv 41) (iv 2) (.ptr 1 0 41), [.cells 124 [List.replicate 49 (iv 0)] true, .cells 124 [(limC rem).set 41 (iv 2)] true, .map limEs 16]⟩, by kernel_rfl, by kernel_rfl, by kernel_rfl, by kernel_rfl, limI_of (by simp [limC, limR])⟩
  · exact ⟨0, ⟨limT (iv 40) (iv 3) (.mp 2) (.mp 2) (itv r) (.tup [bv true, iv 40, iv 3]) (bv true) (.tup [iv 40, iv 3]) (iv 40) (iv 3) g19 g20 g21, limH rem⟩,
      ⟨limT (iv 40) (iv 3) (.mp 2) (.mp 2) (itv r) (.tup [bv true, iv 40, iv 3]) (bv true) (.tup [iv 40, iv 3]) (iv 40) (iv 3) (iv 40) (iv 3) (.ptr 1 0 40), [.cells 124 [List.replicate 49 (iv 0)] true, .cells 124 [(limC rem).set 40 (iv 3)] true, .map limEs 16]⟩, by kernel_rfl, by kernel_rfl, by kernel_rfl, by kernel_rfl, limI_of (by simp [limC, limR])⟩
  · exact ⟨0, ⟨limT (iv 42) (iv 127) (.mp 2) (.mp 2) (itv r) (.tup [bv true, iv 42, iv 127]) (bv true) (.tup [iv 42, iv 127]) (iv 42) (iv 127) g19 g20 g21, limH rem⟩,
      ⟨limT (iv 42) (iv 127) (.mp 2) (.mp 2) (itv r) (.tup [bv true, iv 42, iv 127]) (bv true) (.tup [iv 42, iv 127]) (iv 42) (iv 127) (iv 42) (iv 127) (.ptr 1 0 42), [.cells 124 [List.replicate 49 (iv 0)] true, .cells 124 [(limC rem).set 42 (iv 127)] true, .map limEs 16]⟩, by kernel_rfl, by kernel_rfl, by kernel_rfl, by kernel_rfl, limI_of (by simp [limC, limR])⟩
  · exact ⟨0, ⟨limT (iv 43) (iv 127) (.mp 2) (.mp 2) (itv r) (.tup [bv true, iv 43, iv 127]) (bv true) (.tup [iv 43, iv 127]) (iv 43) (iv 127) g19 g20 g21, limH rem⟩,
      ⟨limT (iv 43) (iv 127) (.mp 2) (.mp 2) (itv r) (.tup [bv true, iv 43, iv 127]) (bv true) (.tup [iv 43, iv 127]) (iv 43) (iv 127) (iv 43) (iv 127) (.ptr 1 0 43), [.cells 124 [List.replicate 49 (iv 0)] true, .cells 124 [(limC rem).set 43 (iv 127)] true, .map limEs 16]⟩, by kernel_rfl, by kernel_rfl, by kernel_rfl, by kernel_rfl, limI_of (by simp [limC, limR])⟩
  · exact ⟨0, ⟨limT (iv 47) (iv 31) (.mp 2) (.mp 2) (itv r) (.tup [bv true, iv 47, iv 31]) (bv true) (.tup [iv 47, iv 31]) (iv 47) (iv 31) g19 g20 g21, limH rem⟩,
      ⟨limT (iv 47) (iv 31) (.mp 2) (.mp 2) (itv r) (.tup [bv true, iv 47, iv 31]) (bv true) (.tup [iv 47, iv 31]) (iv 47) (iv 31) (iv 47) (iv 31) (.ptr 1 0 47), [.cells 124 [List.replicate 49 (iv 0)] true, .cells 124 [(limC rem).set 47 (iv 31)] true, .map limEs 16]⟩, by kernel_rfl, by kernel_rfl, by kernel_rfl, by kernel_rfl, limI_of (by simp [limC, limR])⟩
  · exact ⟨0, ⟨limT (iv 48) (iv 15) (.mp 2) (.mp 2) (itv r) (.tup [bv true, iv 48, iv 15]) (bv true) (.tup [iv 48, iv 15]) (iv 48) (iv 15) g19 g20 g21, limH rem⟩,
      ⟨limT (iv 48) (iv 15) (.mp 2) (.mp 2) (itv r) (.tup [bv true, iv 48, iv 15]) (bv true) (.tup [iv 48, iv 15]) (iv 48) (iv 15) (iv 48) (iv 15) (.ptr 1 0 48), [.cells 124 [List.replicate 49 (iv 0)] true, .cells 124 [(limC rem).set 48 (iv 15)] true, .map limEs 16]⟩, by kernel_rfl, by kernel_rfl, by kernel_rfl, by kernel_rfl, limI_of (by simp [limC, limR])⟩
  · exact ⟨0, ⟨limT (iv 25) (iv 3) (.mp 2) (.mp 2) (itv r) (.tup [bv true, iv 25, iv 3]) (bv true) (.tup [iv 25, iv 3]) (iv 25) (iv 3) g19 g20 g21, limH rem⟩,
      ⟨limT (iv 25) (iv 3) (.mp 2) (.mp 2) (itv r) (.tup [bv true, iv 25, iv 3]) (bv true) (.tup [iv 25, iv 3]) (iv 25) (iv 3) (iv 25) (iv 3) (.ptr 1 0 25), [.cells 124 [List.replicate 49 (iv 0)] true, .cells 124 [(limC rem).set 25 (iv 3)] true, .map limEs 16]⟩, by kernel_rfl, by kernel_rfl, by kernel_rfl, by kernel_rfl, limI_of (by simp [limC, limR])⟩
  · exact ⟨0, ⟨limT (iv 26) (iv 3) (.mp 2) (.mp 2) (itv r) (.tup [bv true, iv 26, iv 3]) (bv true) (.tup [iv 26, iv 3]) (iv 26) (iv 3) g19 g20 g21, limH rem⟩,
      ⟨limT (iv 26) (iv 3) (.mp 2) (.mp 2) (itv r) (.tup [bv true, iv 26, iv 3]) (bv true) (.tup [iv 26, iv 3]) (iv 26) (iv 3) (iv 26) (iv 3) (.ptr 1 0 26), [.cells 124 [List.replicate 49 (iv 0)] true, .cells 124 [(limC rem).set 26 (iv 3)] true, .map limEs 16]⟩, by kernel_rfl, by kernel_rfl, by kernel_rfl, by kernel_rfl, limI_of (by simp [limC, limR])⟩
  · exact ⟨0, ⟨limT (iv 24) (iv 1) (.mp 2) (.mp 2) (itv r) (.tup [bv true, iv 24, iv 1]) (bv true) (.tup [iv 24, iv 1]) (iv 24) (iv 1) g19 g20 g21, limH rem⟩,
      ⟨limT (iv 24) (iv 1) (.mp 2) (.mp 2) (itv r) (.tup [bv true, iv 24, iv 1]) (bv true) (.tup [iv 24, iv 1]) (iv 24) (iv 1) (iv 24) (iv 1) (.ptr 1 0 24), [.cells 124 [List.replicate 49 (iv 0)] true, .cells 124 [(limC rem).set 24 (iv 1)] true, .map limEs 16]⟩, by kernel_rfl, by kernel_rfl, by kernel_rfl, by kernel_rfl, limI_of (by simp [limC, limR])⟩
  · exact ⟨0, ⟨limT (iv 27) (iv 127) (.mp 2) (.mp 2) (itv r) (.tup [bv true, iv 27, iv 127]) (bv true) (.tup [iv 27, iv 127]) (iv 27) (iv 127) g19 g20 g21, limH rem⟩,
      ⟨limT (iv 27) (iv 127) (.mp 2) (.mp 2) (itv r) (.tup [bv true, iv 27, iv 127]) (bv true) (.tup [iv 27, iv 127]) (iv 27) (iv 127) (iv 27) (iv 127) (.ptr 1 0 27), [.cells 124 [List.replicate 49 (iv 0)] true, .cells 124 [(limC rem).set 27 (iv 127)] true, .map limEs 16]⟩, by kernel_rfl, by kernel_rfl, by kernel_rfl, by kernel_rfl, limI_of (by simp [limC, limR])⟩

theorem limits_run {O : Orc} (hO : OSound Tryz.prog (callE O)) : Callable Tryz.prog 74 ∧ Run Tryz.prog 74 [] [] (.agg limV) [] := by
  refine fn_run Tryz.func74 (c := b74) (by kernel_rfl) (by kernel_rfl) fun w0 Pr0 β0 a w Q hβ hr hfin => ?_
  rw [b74_eq]
  have hr : Rel Tryz.prog w0 Pr0 β0 ⟨List.replicate 23 uv, []⟩ a w := hr
  refine wp_seq (evC_wp follows_mixed hO 60 _ _ .normal ⟨(.ptr 0 0 0) :: List.replicate 22 uv, [.cells 124 [List.replicate 49 (iv 0)] true]⟩ a w _ (by kernel_rfl) hr fun a w hr => ?_)
  refine wp_seq (evC_wp follows_mixed hO 60 _ _ .normal ⟨(.ptr 0 0 0) :: (.ptr 1 0 0) :: List.replicate 21 uv, [.cells 124 [List.replicate 49 (iv 0)] true, .cells 124 [List.replicate 49 (iv 0)] true]⟩ a w _ (by kernel_rfl) hr fun a w hr => ?_)
  refine wp_seq (evC_wp follows_mixed hO 60 _ _ .normal ⟨limT uv uv uv uv uv uv uv uv uv uv uv uv uv, [.cells 124 [List.replicate 49 (iv 0)] true, .cells 124 [List.replicate 49 (iv 255)] true]⟩ a w _ (by kernel_rfl) hr fun a w hr => ?_)
  refine wp_seq (wp_seq (rangeReg_wp hO (pre := (rops (sq1 c74)).toList.dropLast) (o := opAt (rops (sq1 c74)) 18) (by kernel_rfl) (T := 141) (kt := 3) (et := 3) (tM := 12) (tIt := 13) (by kernel_rfl) (by kernel_rfl) (by kernel_rfl) (by kernel_rfl)
    (s1 := ⟨limT uv uv (.mp 2) (.mp 2) uv uv uv uv uv uv uv uv uv, [.cells 124 [List.replicate 49 (iv 0)] true, .cells 124 [List.replicate 49 (iv 255)] true, .map limEs 16]⟩) (i := 2) (es := limEs) (c := 16) hr (by kernel_rfl) (by kernel_rfl) (by kernel_rfl) (by decide) (by decide) fun r a w hr => ?_))
  have h0 : limI r (List.range limEs.length) ⟨(limT uv uv (.mp 2) (.mp 2) uv uv uv uv uv uv uv uv uv).set 13 (itv r), [.cells 124 [List.replicate 49 (iv 0)] true, .cells 124 [List.replicate 49 (iv 255)] true, .map limEs 16]⟩ := by
    refine ⟨uv, uv, uv, uv, uv, uv, uv, uv, uv, uv, ?_⟩
    have : limC (List.range limEs.length) = List.replicate 49 (iv 255) := by simp [limC, limR, limEs, List.replicate]
    unfold limH
    rw [this]
    rfl
  refine maploop_wp follows_mixed hO (ops2 := rops (sq1 m74)) (p1 := opAt (rops (sq1 m74)) 0) (ps := (rops (sq1 m74)).toList.drop 1) (tIt := 13) (tN := 14) (tOk := 15) (tE := 16) (N := 23) (by kernel_rfl) (by kernel_rfl) (by kernel_rfl) (by kernel_rfl) (by kernel_rfl) (by kernel_rfl) (by kernel_rfl) (by kernel_rfl) (by kernel_rfl) (by kernel_rfl)
    (by decide) (by decide) (by decide) (by decide) (by decide) (i := 2) (es := limEs) (c := 16) (r := r) (by decide) (Inv := limI r) (fun rem s hI => ?_) (fun rem s k e hI hk he => lim_round hI hk he) (fun rem s a w hI hno hr => ?_) h0 hr
  · obtain ⟨g3, g4, g14, g15, g16, g17, g18, g19, g20, g21, rfl⟩ := hI
    exact ⟨rfl, rfl, rfl⟩
  · obtain ⟨g3, g4, g14, g15, g16, g17, g18, g19, g20, g21, rfl⟩ := hI
    have hc : limC rem = limV := by
      have h := fun k (hk : k < 16) => hno k (by simpa [limEs] using hk)
      simp [limC, limV, limR, h 0, h 1, h 2, h 3, h 4, h 5, h 6, h 7, h 8, h 9, h 10, h 11, h 12, h 13, h 14, h 15]
    unfold limH at hr
    rw [hc] at hr
    refine evC_wp follows_mixed hO 60 _ _ .ret ⟨(((limT g3 g4 (.mp 2) (.mp 2) (itv r) g14 g15 g16 g17 g18 g19 g20 g21).set 14 (.tup [bv false])).set 15 (bv false)).set 22 (.agg limV), [.cells 124 [limV] true, .cells 124 [limV] true, .map limEs 16]⟩ a w _ (by kernel_rfl) hr fun a w hr => hfin .ret _ a w (by simp) (by kernel_rfl) hr
end Go.Ab

set_option linter.unusedVariables false
set_option linter.unusedSimpArgs false
namespace Go.Proofs

set_option maxHeartbeats 1000000 in
set_option maxRecDepth 100000 in
theorem Tryz.stringslite_IndexByte (s : ByteArray) (c : Int) (w : World) :
    Calls Tryz.prog 136 #[.string s, .int .u8 c] w fun e w' => e = .returned (.int .i64 (Lib.indexByte s.data.toList c.toNat.toUInt8)) ∧ w' = w := by
  go_enter Tryz.func136, Tryz.ntmps136
  go_wp2
  rw [run_callFunc_extern Tryz.func182 (by kernel_rfl) (by kernel_rfl) (by kernel_rfl) (e := Extern.BytealgIndexByte.indexByte) (by kernel_rfl), Lib.run_indexByteString]
  simp only [Result.andThen]
  rw [Oper.upon_value]
  go_wp2
  go_ret
  exact ⟨rfl, rfl⟩

set_option maxHeartbeats 1000000 in
theorem Tryz.strings_IndexByte (s : ByteArray) (c : Int) (w : World) :
    Calls Tryz.prog 60 #[.string s, .int .u8 c] w fun e w' => e = .returned (.int .i64 (Lib.indexByte s.data.toList c.toNat.toUInt8)) ∧ w' = w := by
  go_enter Tryz.func60, Tryz.ntmps60
  go_wp2_with (go_at_call 136; refine (Tryz.stringslite_IndexByte _ _ _).mono ?_; rintro e w' ⟨rfl, rfl⟩)
  go_ret
  exact ⟨rfl, rfl⟩
end Go.Proofs

namespace Go.Ab
open Go.Proofs

def idxB (c : Nat) : List UInt8 → Int
  | [] => -1
  | b :: l => if b.toNat == c then 0 else if idxB c l == -1 then -1 else idxB c l + 1

/-- The functions that the evaluator does not run by itself. -/
def X1 : Orc := fun K args h =>
  match K, args with
  | 60, [.tr (.sc (.string s)), .tr (.sc (.int .u8 c))] => if 0 ≤ c ∧ c < 256 then some (iv (Lib.indexByte s.data.toList c.toNat.toUInt8), h) else none
  | 74, [] => match h with | [] => some (.agg limV, []) | _ => none
  | _, _ => none

theorem osound_E0 : OSound Tryz.prog (callE (E Tryz.prog fun _ _ _ => none)) := callE_sound (E_sound follows_mixed (osound_none _))

theorem X1_sound : OSound Tryz.prog X1 := by
  intro K args h v h' he
  unfold X1 at he
  split at he
  · rename_i s c
    split at he
    · rename_i hc
      injection he with he
      injection he with e1 e2
      subst e1 e2
      refine ⟨⟨_, Tryz.func60, by kernel_rfl, by kernel_rfl⟩, fun w Pr β us hh hl => ?_⟩
      obtain ⟨u1, us1, rfl, hu1, hl1⟩ := hl.cons_inv
      obtain ⟨u2, us2, rfl, hu2, hl2⟩ := hl1.cons_inv
      rw [hl2.nil_inv, hu1.sc_inv, hu2.sc_inv]
      refine Calls.mono (Tryz.strings_IndexByte s c w) fun e w' hres => ?_
      obtain ⟨rfl, rfl⟩ := hres
      exact ⟨_, Pr, β, rfl, .refl .., hh, RV.mk_sc _⟩
    · cases he
  · split at he
    · injection he with he
      injection he with e1 e2
      subst e1 e2
      exact limits_run osound_E0
    · cases he
  · cases he
end Go.Ab
