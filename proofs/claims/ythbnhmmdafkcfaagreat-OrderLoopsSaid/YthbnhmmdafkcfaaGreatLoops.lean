/- Proved: for every input orchestrionlaw09.OrderLoops returns true, and its argument reads behind the call as it read before. Conditions: none. -/
import Derived.Test.YthbnhmmdafkcfaaGreatRows
import Derived.Test.YthbnhmmdafkcfaaGreatWalkE
import Derived.Test.YthbnhmmdafkcfaaGreatEngF
import Derived.WalkKit
import Derived.ProofKit
import Derived.OpenShut
import Derived.ShutString
import Derived.ChangeOld
import Derived.Below
import Derived.SizedLaws
set_option linter.unusedVariables false
namespace Go.Ab
/-- A law's call, by its run. -/
theorem law_of_run {P : Program} {K : FuncId} {vs : List V} {us : List Value} {h' : H} (he : Callable P K ∧ Run P K vs [] (bv true) h') {W : World} (hl : RL W (fun b => b < W.heap.size) [] vs us) :
    Calls P K us.toArray W fun e W' => e = .returned (.bool true) ∧ RowKit.Below W.heap.size W W' := by
  refine Calls.mono (he.2 W _ [] us (hp_start W) hl) fun e W' hres => ?_
  obtain ⟨r, Pr', β', rfl, hext, _, hr⟩ := hres
  rw [hr.sc_inv]
  exact ⟨rfl, hext.os, hext.tape, hext.out, hext.size, fun k hk => hext.keep k hk fun i sz h => by simp at h⟩
end Go.Ab
namespace Go.Proofs.YthbnhmmdafkcfaaGreat.orderLoops
open Go.ChangeShapes Go.WideShapes Go.ChangeAt Go.RowKit
open Go.ChangeMaps (open_string shut_string)
set_option maxRecDepth 100000
theorem own : ownKnob Tryz.prog.godebug = none := by kernel_rfl
theorem laidOut : laidOutB Tryz.prog = true := by kernel_rfl
section
open Go.Ab
theorem sz3 : szT Tryz.prog 3 = 1 := by kernel_rfl
theorem sz23 : szT Tryz.prog 23 = 4 := by kernel_rfl
theorem draw23 {n : Nat} {ts : List T} (h : WfT Tryz.prog (n + 2) 23 ts) : ∃ d f t x, ts = [ti d, ti f, ti t, ti x] := by
  obtain ⟨hl, hf⟩ := dec_struct (n := n + 1) Tryz.underlying23 h
  simp only [List.mem_cons, forall_eq_or_imp, List.not_mem_nil, false_implies, implies_true, and_true, List.drop_zero, sz3] at hf
  obtain ⟨f0, f1, f2, f3⟩ := hf
  obtain ⟨x0, h0, k0⟩ := dec_int (n := n) Tryz.underlying3 f0
  obtain ⟨x1, h1, k1⟩ := dec_int (n := n) Tryz.underlying3 f1
  obtain ⟨x2, h2, k2⟩ := dec_int (n := n) Tryz.underlying3 f2
  obtain ⟨x3, h3, k3⟩ := dec_int (n := n) Tryz.underlying3 f3
  rw [sz23] at hl
  refine ⟨x0, x1, x2, x3, ?_⟩
  have h := List.take_append_drop 1 ts
  rw [← h, h0, take_drop_append (l := ts) (a := 1) (b := 1) (by omega), h1, take_drop_append (l := ts) (a := 2) (b := 1) (by omega), h2, take_drop_append (l := ts) (a := 3) (b := 1) (by omega), h3, List.drop_eq_nil_of_le (by omega)]
  rfl
end
theorem lifted (os : Os) (started : os.Started) (H : Type) (enc : TypeId × Value → H) :
    ReturnsInHanded {} Tryz.checked os 3 .any (Rows.orderLoopsSpec.pre6 enc Tryz.prog Tryz.f3 Rows.orderLoopsRow.domain false) (Rows.orderLoopsSpec.post enc Tryz.prog Tryz.f3 false true false false) := by
  refine returnsInHanded_of_change_sized (C := Tryz.checked) own started (by kernel_rfl) Tryz.func3
    (ChangeSpec.witness6 (enc := enc) (C := Tryz.checked) false ⟨#[], #[.agg #[.int .i64 0, .int .i64 0, .int .i64 0, .int .i64 0]], []⟩ 8 (by kernel_rfl) (by kernel_rfl) (by kernel_rfl) (by kernel_rfl)) ?_
  intro W base args ds gs before hval0 hW hcnd hsz0 _
  have hval : ∀ (j : Nat) t v, Tryz.f3.params[j]? = some t → args[j]? = some v → Value.okWide Tryz.prog W .any base t v := hval0
  have hW' := hW
  obtain ⟨p, q, hA0, hV, rfl, hfz, hnd⟩ := hW
  have hA : DataW.TrodAll enc Tryz.prog W 0 (fun _ => true) true Tryz.f3.params.toList args.toList ds p := hA0
  rw [Tryz.params3] at hA hval
  obtain ⟨v0, vs0, d0, ds0, p0, q0, hargs, rfl, rfl, h0, r0⟩ := trodAll_cons hA
  obtain ⟨rfl, rfl, rfl⟩ := trodAll_nil r0
  obtain rfl : args = #[v0] := by cases args; simp_all
  obtain ⟨rfl, rfl⟩ := trodVars_none hV
  have k0 := h0
  have lt0 : ∀ x ∈ p0, x.block < W.heap.size := by obtain ⟨m, hm⟩ := k0; exact DataW.trod_lt m _ _ _ hm
  obtain ⟨ts, hts, hrv⟩ := Go.Ab.arg_tree (w := W) (Pr := fun b => b < W.heap.size) (β := []) (n := 2) (fun b hb => hb) (by kernel_rfl) (fun h => by cases h) (hval 0 23 v0 rfl rfl) h0
  obtain ⟨d, f, t, x, rfl⟩ := draw23 hts
  have hrv2 : Go.Ab.RV W (fun b => b < W.heap.size) [] (.agg [Go.Ab.iv d, Go.Ab.iv f, Go.Ab.iv t, Go.Ab.iv x]) v0 := hrv
  clear hA0 hval0 hsz0
  refine (Go.Ab.law_of_run (us := [v0]) (Go.Ab.law_all d f t x) ⟨rfl, fun k v u h1 h2 => ?_⟩).mono fun e W' ⟨he, bel⟩ => ?_
  · cases k with
    | zero =>
      injection h1 with h1
      injection h2 with h2
      subst h1 h2
      exact hrv2
    | succ k => simp at h1
  subst he
  exact ⟨_, rfl, _, _, _, [], _, [], hW', trodAll_mk1 (shut_bool Tryz.underlying4 _), (trodAll_cons_mk (Below.trod laidOut (by kernel_rfl) (of_decide_eq_true (by kernel_rfl)) k0 bel lt0) trodAll_mk0), rfl, bel.frame _, fun h => by cases h⟩
theorem over : Rows.orderLoopsRow.holds Tryz.pinned (OpenSpec.ofChange Rows.orderLoopsSpec) :=
  OpenClaim.holds_of_wide 3 Tryz.f3 rfl rfl rfl rfl rfl rfl rfl ⟨rfl, rfl, rfl, rfl, rfl⟩ rfl rfl rfl rfl rfl (by kernel_rfl) Tryz.func3 (by kernel_rfl)
    (of_decide_eq_true (by kernel_rfl)) (by unfold Func.isWrapper; first | (rw [if_pos (by decide +kernel)]; kernel_rfl) | (rw [if_neg (by decide +kernel)]; exact ⟨rfl, rfl⟩))
    (fun os started H enc _ => lifted os started H enc)
theorem proved : Rows.OrderLoopsSaid := over
end Go.Proofs.YthbnhmmdafkcfaaGreat.orderLoops
namespace Go.Proofs.YthbnhmmdafkcfaaGreat
/-- OrderLoops: whatever the input, the law answers true, and its argument reads as it did. -/
theorem orderLoops_holds : Rows.OrderLoopsSaid := orderLoops.proved
end Go.Proofs.YthbnhmmdafkcfaaGreat
