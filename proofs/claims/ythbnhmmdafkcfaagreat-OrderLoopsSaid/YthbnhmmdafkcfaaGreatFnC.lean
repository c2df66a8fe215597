/- What single functions of the program and of the reference answer, for the inputs that OrderLoops hands them. -/
import Derived.Test.YthbnhmmdafkcfaaGreatFnB
set_option linter.unusedVariables false
set_option linter.unusedSimpArgs false
namespace Go.Ab
open Go.Proofs
set_option maxRecDepth 100000

/-! ### dialect.impulse -/

def fC52 : V × H := (.mp 0, [.map [(.int .u8 65, .dead, 0), (.int .u8 66, .dead, 0), (.int .u8 67, .dead, 0), (.int .u8 68, .dead, 0), (.int .u8 69, .dead, 0), (.int .u8 70, .dead, 0), (.int .u8 71, .dead, 0), (.int .u8 72, .dead, 0), (.int .u8 73, .dead, 0), (.int .u8 74, .dead, 0), (.int .u8 75, .dead, 0), (.int .u8 76, .dead, 0), (.int .u8 79, .dead, 0), (.int .u8 81, .dead, 0), (.int .u8 82, .dead, 0), (.int .u8 83, .dead, 0), (.int .u8 84, .dead, 0), (.int .u8 85, .dead, 0), (.int .u8 86, .dead, 0), (.int .u8 88, .dead, 0)] 20])
def fC128 : V × H := (.mp 0, [.map [(.int .i64 3, .dead, 0), (.int .i64 4, .dead, 0), (.int .i64 7, .dead, 0), (.int .i64 8, .dead, 0), (.int .i64 9, .dead, 0), (.int .i64 11, .fn 181 [] [.ptr 1 0 0], 0), (.int .i64 12, .dead, 0), (.int .i64 13, .dead, 0), (.int .i64 14, .dead, 0)] 9, .cells 3 [[iv 34]] true])
def Xi : Orc := orX (orX X1 (one0 52 fC52)) (one0 128 fC128)
theorem Xi_sound : OSound Tryz.prog Xi := orX_sound (orX_sound X1_sound (one0_sound (coarse_sound follows_mixed X1_sound (n := 20) (p := fun _ => false) (by kernel_rfl)))) (one0_sound (coarse_sound follows_mixed X1_sound (n := 20) (p := pk [] [11]) (by kernel_rfl)))
noncomputable def Oi : Orc := evN Tryz.prog Xi 12
theorem Oi_sound : OSound Tryz.prog (callE Oi) := callE_sound (evN_sound follows_mixed Xi_sound 12)
noncomputable def b54 : Code := Tryz.f54.body.getD .skip
noncomputable def c54 : Code := sq1 (sq2 (sq2 b54))
noncomputable def l54 : Code := inn (inn (sq2 c54))
noncomputable def m54 : Code := inn (sq2 (sq2 l54))
theorem c54_eq : c54 = .seq (.region 2 (rops (sq1 c54)) false) (.block 0 (.loop (.seq (.region 3 #[opAt (rops (sq1 l54)) 0, opAt (rops (sq1 l54)) 1] false)
  (.seq (.cond (.tmp 9) .skip (.exit 0)) (.block 1 (.seq (.region 4 (rops (sq1 m54)) false) (sq2 m54))))))) := by kernel_rfl
theorem b54_eq : b54 = .seq (sq1 b54) (.seq (sq1 (sq2 b54)) (.seq c54 (sq2 (sq2 (sq2 b54))))) := by kernel_rfl
def iL : List (Value × V × Nat) := [(.int .u8 69, iv 5, 1), (.int .u8 70, iv 5, 2), (.int .u8 73, iv 6, 3), (.int .u8 74, iv 7, 4), (.int .u8 81, iv 10, 5)]
def iT (it : V) : List V := setT 53 [(0, sc (.map none)), (1, .mp 0), (7, it), (2, .dead), (3, .dead), (4, .dead), (5, .dead), (6, .dead), (8, .dead), (9, .dead), (10, .dead), (11, .dead), (12, .dead), (13, .dead), (14, .dead), (15, .dead), (16, .dead), (17, .dead), (18, .dead), (19, .dead), (20, .dead), (21, .dead), (22, .dead), (23, .dead), (24, .dead), (25, .dead), (26, .dead), (27, .dead), (28, .dead), (29, .dead), (30, .dead), (31, .dead), (32, .dead), (33, .dead), (34, .dead), (35, .dead), (36, .dead), (37, .dead), (38, .dead), (39, .dead), (40, .dead), (41, .dead), (42, .dead), (43, .dead), (44, .dead), (45, .dead), (46, .dead), (47, .dead), (48, .dead), (49, .dead), (50, .dead), (51, .dead), (52, .dead)]
def iS (r : Nat) : St := ⟨iT (itv r), [.map [(.int .u8 65, .dead, 0), (.int .u8 66, .dead, 0), (.int .u8 67, .dead, 0), (.int .u8 68, .dead, 0), (.int .u8 69, .dead, 0), (.int .u8 70, .dead, 0), (.int .u8 71, .dead, 0), (.int .u8 72, .dead, 0), (.int .u8 73, .dead, 0), (.int .u8 74, .dead, 0), (.int .u8 75, .dead, 0), (.int .u8 76, .dead, 0), (.int .u8 79, .dead, 0), (.int .u8 81, .dead, 0), (.int .u8 82, .dead, 0), (.int .u8 83, .dead, 0), (.int .u8 84, .dead, 0), (.int .u8 85, .dead, 0), (.int .u8 86, .dead, 0), (.int .u8 88, .dead, 0)] 20, .map iL 5]⟩
noncomputable def iR (r : Nat) (e : Value × V × Nat) : St := (runE Tryz.prog Oi (rops (sq1 m54)) ((rops (sq1 m54)).toList.drop 1) ⟨(((iS r).tm.set 8 (.tup [bv true, sc e.1, e.2.1])).set 9 (bv true)).set 10 (.tup [sc e.1, e.2.1]), (iS r).h⟩).getD ⟨[], []⟩
noncomputable def iR2 (r : Nat) (e : Value × V × Nat) : St := ((evC Tryz.prog Oi (iter 0) (sq2 m54) (iR r e)).getD (.normal, ⟨[], []⟩)).2

theorem i_round {w0 : World} {Pr0 : Nat → Prop} {β0 : Bt} (hβ : β0.length ≤ 2) {r : Nat} {rem : List Nat} {k : Nat} {e : Value × V × Nat} (hk : k ∈ rem) (he : iL[k]? = some e) :
    ∃ n s3 s4 s5, runE Tryz.prog Oi (rops (sq1 m54)) ((rops (sq1 m54)).toList.drop 1) ⟨(((iS r).tm.set 8 (.tup [bv true, sc e.1, e.2.1])).set 9 (bv true)).set 10 (.tup [sc e.1, e.2.1]), (iS r).h⟩ = some s3 ∧ s3.tm[7]? = some (itv r) ∧ s3.h[1]? = some (.map iL 5) ∧
      evC Tryz.prog Oi (iter n) (sq2 m54) s3 = some (.normal, s4) ∧ s4.tm[7]? = some (itv r) ∧ s4.h[1]? = some (.map iL 5) ∧
      (∀ a w, RelIt Tryz.prog w0 Pr0 β0 1 iL 5 7 r (rem.filter (fun x => decide (x ≠ k))) (some k) s4 a w → RelIt Tryz.prog w0 Pr0 β0 1 iL 5 7 r (rem.filter (fun x => decide (x ≠ k))) (some k) s5 a w) ∧ s5 = iS r := by
  have hk5 : k < 5 := by
    have := (List.getElem?_eq_some_iff.1 he).1
    simpa [iL] using this
  have hc : k = 0 ∨ k = 1 ∨ k = 2 ∨ k = 3 ∨ k = 4 := by omega
  rcases hc with rfl | rfl | rfl | rfl | rfl <;> simp [iL] at he <;> subst he
  · exact ⟨0, iR r (.int .u8 69, iv 5, 1), iR2 r (.int .u8 69, iv 5, 1), iS r, by kernel_rfl, by kernel_rfl, by kernel_rfl, by kernel_rfl, by kernel_rfl, by kernel_rfl, fun a w hr => hr.coarse (m := 2) (ks := [2, 3, 4, 5, 6, 8, 9, 10, 11, 12, 13, 14, 15, 16, 17, 18, 19, 20, 21, 22, 23, 24, 25, 26, 27, 28, 29, 30, 31, 32, 33, 34, 35, 36, 37, 38, 39, 40, 41, 42, 43, 44, 45, 46, 47, 48, 49, 50, 51, 52]) (p := fun i _ => i == 1) hβ (by kernel_rfl) (by decide) (by kernel_rfl) (by kernel_rfl), rfl⟩
  · exact ⟨0, iR r (.int .u8 70, iv 5, 2), iR2 r (.int .u8 70, iv 5, 2), iS r, by kernel_rfl, by kernel_rfl, by kernel_rfl, by kernel_rfl, by kernel_rfl, by kernel_rfl, fun a w hr => hr.coarse (m := 2) (ks := [2, 3, 4, 5, 6, 8, 9, 10, 11, 12, 13, 14, 15, 16, 17, 18, 19, 20, 21, 22, 23, 24, 25, 26, 27, 28, 29, 30, 31, 32, 33, 34, 35, 36, 37, 38, 39, 40, 41, 42, 43, 44, 45, 46, 47, 48, 49, 50, 51, 52]) (p := fun i _ => i == 1) hβ (by kernel_rfl) (by decide) (by kernel_rfl) (by kernel_rfl), rfl⟩
  · exact ⟨0, iR r (.int .u8 73, iv 6, 3), iR2 r (.int .u8 73, iv 6, 3), iS r, by kernel_rfl, by kernel_rfl, by kernel_rfl, by kernel_rfl, by kernel_rfl, by kernel_rfl, fun a w hr => hr.coarse (m := 2) (ks := [2, 3, 4, 5, 6, 8, 9, 10, 11, 12, 13, 14, 15, 16, 17, 18, 19, 20, 21, 22, 23, 24, 25, 26, 27, 28, 29, 30, 31, 32, 33, 34, 35, 36, 37, 38, 39, 40, 41, 42, 43, 44, 45, 46, 47, 48, 49, 50, 51, 52]) (p := fun i _ => i == 1) hβ (by kernel_rfl) (by decide) (by kernel_rfl) (by kernel_rfl), rfl⟩
  · exact ⟨0, iR r (.int .u8 74, iv 7, 4), iR2 r (.int .u8 74, iv 7, 4), iS r, by kernel_rfl, by kernel_rfl, by kernel_rfl, by kernel_rfl, by kernel_rfl, by kernel_rfl, fun a w hr => hr.coarse (m := 2) (ks := [2, 3, 4, 5, 6, 8, 9, 10, 11, 12, 13, 14, 15, 16, 17, 18, 19, 20, 21, 22, 23, 24, 25, 26, 27, 28, 29, 30, 31, 32, 33, 34, 35, 36, 37, 38, 39, 40, 41, 42, 43, 44, 45, 46, 47, 48, 49, 50, 51, 52]) (p := fun i _ => i == 1) hβ (by kernel_rfl) (by decide) (by kernel_rfl) (by kernel_rfl), rfl⟩
  · exact ⟨0, iR r (.int .u8 81, iv 10, 5), iR2 r (.int .u8 81, iv 10, 5), iS r, by kernel_rfl, by kernel_rfl, by kernel_rfl, by kernel_rfl, by kernel_rfl, by kernel_rfl, fun a w hr => hr.coarse (m := 2) (ks := [2, 3, 4, 5, 6, 8, 9, 10, 11, 12, 13, 14, 15, 16, 17, 18, 19, 20, 21, 22, 23, 24, 25, 26, 27, 28, 29, 30, 31, 32, 33, 34, 35, 36, 37, 38, 39, 40, 41, 42, 43, 44, 45, 46, 47, 48, 49, 50, 51, 52]) (p := fun i _ => i == 1) hβ (by kernel_rfl) (by decide) (by kernel_rfl) (by kernel_rfl), rfl⟩

noncomputable def iE : St := ((evC Tryz.prog Oi (iter 0) (sq1 (sq2 b54)) ((evC Tryz.prog Oi (iter 0) (sq1 b54) ⟨List.replicate 53 uv, []⟩).getD (.normal, ⟨[], []⟩)).2).getD (.normal, ⟨[], []⟩)).2
noncomputable def iE1 : St := (runE Tryz.prog Oi (rops (sq1 c54)) (rops (sq1 c54)).toList.dropLast iE).getD ⟨[], []⟩
def impR : V × H := (.mp 0, [(.map [((.int .u8 65), (.dead, 0)), ((.int .u8 66), (.dead, 0)), ((.int .u8 67), (.dead, 0)), ((.int .u8 68), (.dead, 0)), ((.int .u8 69), (.dead, 0)), ((.int .u8 70), (.dead, 0)), ((.int .u8 71), (.dead, 0)), ((.int .u8 72), (.dead, 0)), ((.int .u8 73), (.dead, 0)), ((.int .u8 74), (.dead, 0)), ((.int .u8 75), (.dead, 0)), ((.int .u8 76), (.dead, 0)), ((.int .u8 79), (.dead, 0)), ((.int .u8 81), (.dead, 0)), ((.int .u8 82), (.dead, 0)), ((.int .u8 83), ((.fn 171 [] [(.ptr 1 0 0), (.ptr 2 0 0)]), 0)), ((.int .u8 84), (.dead, 0)), ((.int .u8 85), (.dead, 0)), ((.int .u8 86), (.dead, 0)), ((.int .u8 88), (.dead, 0)), ((.int .u8 77), (.dead, 21)), ((.int .u8 78), (.dead, 22)), ((.int .u8 80), (.dead, 23)), ((.int .u8 87), (.dead, 24)), ((.int .u8 89), (.dead, 25)), ((.int .u8 90), (.dead, 26))] 26), (.cells 3 [[iv 12]] true), (.cells 121 [[(.fn 173 [] [(.ptr 3 0 0)])]] true), (.cells 136 [[(.mp 4)]] true), (.map [((.int .i64 3), (.dead, 0)), ((.int .i64 4), (.dead, 0)), ((.int .i64 7), (.dead, 0)), ((.int .i64 8), (.dead, 0)), ((.int .i64 9), (.dead, 0)), ((.int .i64 11), ((.fn 181 [] [(.ptr 5 0 0)]), 0)), ((.int .i64 12), (.dead, 0)), ((.int .i64 13), (.dead, 0)), ((.int .i64 14), (.dead, 0))] 9), (.cells 3 [[iv 34]] true)])

theorem imp_run : Callable Tryz.prog 54 ∧ Run Tryz.prog 54 [] [] impR.1 impR.2 := by
  refine fn_run Tryz.func54 (c := b54) (by kernel_rfl) (by kernel_rfl) fun w0 Pr0 β0 a w Q hβ hr hfin => ?_
  have hβ0 : β0.length ≤ 0 := by simp [hβ]
  have hβ2 : β0.length ≤ 2 := by omega
  rw [b54_eq, c54_eq]
  have hr : Rel Tryz.prog w0 Pr0 β0 ⟨List.replicate 53 uv, []⟩ a w := hr
  refine wp_seq (evC_wp follows_mixed Oi_sound 0 _ _ .normal ((evC Tryz.prog Oi (iter 0) (sq1 b54) ⟨List.replicate 53 uv, []⟩).getD (.normal, ⟨[], []⟩)).2 a w _ (by kernel_rfl) hr fun a w hr => ?_)
  refine wp_seq (evC_wp follows_mixed Oi_sound 0 _ _ .normal iE a w _ (by kernel_rfl) hr fun a w hr => ?_)
  refine wp_seq (wp_seq (rangeReg_wp Oi_sound (pre := (rops (sq1 c54)).toList.dropLast) (o := opAt (rops (sq1 c54)) 7) (by kernel_rfl) (T := 140) (kt := 5) (et := 3) (tM := 6) (tIt := 7) (by kernel_rfl) (by kernel_rfl) (by kernel_rfl) (by kernel_rfl)
    (s1 := iE1) (i := 1) (es := iL) (c := 5) hr (by kernel_rfl) (by kernel_rfl) (by kernel_rfl) (Nat.le_of_ble_eq_true (by kernel_rfl)) (by decide) fun r a w hr => ?_))
  have hr := hr.coarse (m := 2) (ks := [2, 3, 4, 5, 6, 8, 9, 10, 11, 12, 13, 14, 15, 16, 17, 18, 19, 20, 21, 22, 23, 24, 25, 26, 27, 28, 29, 30, 31, 32, 33, 34, 35, 36, 37, 38, 39, 40, 41, 42, 43, 44, 45, 46, 47, 48, 49, 50, 51, 52]) (p := fun i _ => i == 1) (s' := iS r) hβ2 (by kernel_rfl) (by decide) (by kernel_rfl) (by kernel_rfl)
  refine maploop_wp2 follows_mixed Oi_sound (ops2 := rops (sq1 m54)) (p1 := opAt (rops (sq1 m54)) 0) (ps := (rops (sq1 m54)).toList.drop 1) (tIt := 7) (tN := 8) (tOk := 9) (tE := 10) (N := 53) (by kernel_rfl) (by kernel_rfl) (by kernel_rfl) (by kernel_rfl) (by kernel_rfl) (by kernel_rfl) (by kernel_rfl) (by kernel_rfl) (by kernel_rfl) (by kernel_rfl)
    (by decide) (by decide) (by decide) (by decide) (by decide) (i := 1) (es := iL) (c := 5) (r := r) (by decide) (Inv := fun _ s => s = iS r) (fun rem s hI => ?_) (fun rem s k e hI hk he => by subst hI; exact i_round hβ2 hk he) (fun rem s a w hI hno hr => ?_) (rem := List.range iL.length) rfl hr
  · subst hI
    exact ⟨by kernel_rfl, by kernel_rfl, by kernel_rfl⟩
  · subst hI
    have hr := hr.coarse (m := 0) (ks := [7, 8, 9]) (p := fun _ _ => false) (s' := ⟨setT 53 [(0, sc (.map none)), (1, .mp 0), (2, .dead), (3, .dead), (4, .dead), (5, .dead), (6, .dead), (7, .dead), (8, .dead), (9, .dead), (10, .dead), (11, .dead), (12, .dead), (13, .dead), (14, .dead), (15, .dead), (16, .dead), (17, .dead), (18, .dead), (19, .dead), (20, .dead), (21, .dead), (22, .dead), (23, .dead), (24, .dead), (25, .dead), (26, .dead), (27, .dead), (28, .dead), (29, .dead), (30, .dead), (31, .dead), (32, .dead), (33, .dead), (34, .dead), (35, .dead), (36, .dead), (37, .dead), (38, .dead), (39, .dead), (40, .dead), (41, .dead), (42, .dead), (43, .dead), (44, .dead), (45, .dead), (46, .dead), (47, .dead), (48, .dead), (49, .dead), (50, .dead), (51, .dead), (52, .dead)], [.map [(.int .u8 65, .dead, 0), (.int .u8 66, .dead, 0), (.int .u8 67, .dead, 0), (.int .u8 68, .dead, 0), (.int .u8 69, .dead, 0), (.int .u8 70, .dead, 0), (.int .u8 71, .dead, 0), (.int .u8 72, .dead, 0), (.int .u8 73, .dead, 0), (.int .u8 74, .dead, 0), (.int .u8 75, .dead, 0), (.int .u8 76, .dead, 0), (.int .u8 79, .dead, 0), (.int .u8 81, .dead, 0), (.int .u8 82, .dead, 0), (.int .u8 83, .dead, 0), (.int .u8 84, .dead, 0), (.int .u8 85, .dead, 0), (.int .u8 86, .dead, 0), (.int .u8 88, .dead, 0)] 20]⟩) hβ0 (by kernel_rfl)
    refine evC_coarse (ex := .ret) follows_mixed Oi_sound (n := 60) (m := 0) (ks := (List.range 52).map (· + 1)) (p := fun _ => pk [83] [11]) (s' := ⟨setT 53 ([(0, .mp 0)] ++ (List.range 52).map fun i => (i + 1, V.dead)), impR.2⟩) (by kernel_rfl) hβ0 hr fun a w hr => hfin .ret _ a w (by simp) (by kernel_rfl) hr

end Go.Ab
