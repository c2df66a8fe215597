/- An evaluator of the program over states of which some values are told, and that what it says the program does. -/
import Derived.Test.YthbnhmmdafkcfaaGreatEngD3
set_option linter.unusedVariables false
set_option linter.unusedSimpArgs false
namespace Go.Ab

/-- The state of the evaluator stands for that of the machine, in a call that began in the world w0. -/
def Rel (P : Program) (w0 : World) (Pr0 : Nat → Prop) (β0 : Bt) (s : St) (a : Act) (w : World) : Prop :=
  ∃ Pr β, Ext w0 Pr0 β0 w Pr β ∧ Hp P w Pr β s.h ∧ RL w Pr β s.tm a.tmps.toList ∧ a.defers = []

section
variable {P : Program} {O : Orc} {w0 : World} {Pr0 : Nat → Prop} {β0 : Bt}

theorem stands_of {w : World} {Pr : Nat → Prop} {β : Bt} {s : St} {a : Act} (hl : RL w Pr β s.tm a.tmps.toList) : Stands w Pr β s.ev a.eval := fun X => by
  cases X with
  | tmp t =>
    simp only [St.ev, Act.eval]
    cases h1 : s.tm[t]? with
    | none =>
      have h2 : a.tmps[t]? = none := by
        have := hl.1
        rw [List.getElem?_eq_none_iff] at h1
        simp at this ⊢
        omega
      rw [List.getD_eq_getElem?_getD, h1]
      have : a.tmps.getD t undef = undef := by simp [Array.getD_eq_getD_getElem?, h2]
      rw [this]
      exact RV.mk_sc _
    | some v =>
      obtain ⟨u, h2, h3⟩ := hl.get h1
      rw [List.getD_eq_getElem?_getD, h1]
      have : a.tmps.getD t undef = u := by
        rw [Array.getElem?_toList] at h2
        simp [Array.getD_eq_getD_getElem?, h2]
      rw [this]
      exact h3
  | const v => exact .ofVal v
  | global g => exact .dead
  | func f =>
    have : a.eval (.func f) = .func (.func f) ([] : List Value).toArray ([] : List Value).toArray := rfl
    rw [this]
    exact .fn [] [] rfl rfl (fun k v u h => by simp at h) (fun k v u h => by simp at h)

theorem Rel.put {s : St} {a : Act} {w w' : World} {Pr Pr' : Nat → Prop} {β β' : Bt} (hb : Ext w0 Pr0 β0 w Pr β) (hh : Hp P w Pr β s.h) (hl : RL w Pr β s.tm a.tmps.toList) (hd : a.defers = []) (e : Ext w Pr β w' Pr' β') {h' : H} (hh' : Hp P w' Pr' β' h')
    {v : V} {u : Value} (hv : RV w' Pr' β' v u) (d : Option Tmp) : Rel P w0 Pr0 β0 (s.put d v h') (a.put d u) w' := by
  refine ⟨Pr', β', hb.trans e, ?_, ?_, ?_⟩
  · cases d <;> exact hh'
  · have := e.rl hh hl
    cases d with
    | none => exact this
    | some t =>
      show RL w' Pr' β' (s.tm.set t v) (a.tmps.setIfInBounds t u).toList
      rw [Array.toList_setIfInBounds]
      exact this.set hv
  · cases d <;> exact hd

/-- One operation. -/
theorem op_wp (hO : OSound P (callE O)) {o : Oper} {s : St} {a : Act} {w : World} (hr : Rel P w0 Pr0 β0 s a w) {v : V} {h' : H} (he : opE P O o s.ev s.h = some (v, h')) {next : Act → World → Prop} {Q : Exit → Act → World → Prop}
    (hn : ∀ a' w', Rel P w0 Pr0 β0 (s.put o.dst v h') a' w' → next a' w') : o.wp P a w next Q := by
  obtain ⟨Pr, β, hb, hh, hl, hd⟩ := hr
  unfold Oper.wp
  rcases op_cases hO hh (stands_of hl) he with hq | ⟨K, args, us, hg⟩
  · cases hq with
    | val r w' β' hrun e hh' hv =>
      rw [hrun, Oper.upon_value]
      exact hn _ _ (Rel.put hb hh hl hd e hh' hv _)
    | skip w' hrun e hh' hv =>
      rw [hrun, Oper.upon_skip]
      subst hv
      exact hn _ _ (Rel.put hb hh hl hd e hh' (RV.mk_sc _) _)
  · rw [hg.hr, Oper.upon_enter]
    refine Calls.mono ((hO K args s.h v h' hg.he).2 w Pr β us hh hg.hl) fun e w' hres => ?_
    obtain ⟨rv, Pr1, β1, rfl, hext, hh1, hv1⟩ := hres
    exact hn _ _ (Rel.put hb hh hl hd hext hh1 hv1 _)

theorem want_wanted {ops : Array Oper} {o : Oper} {w : World} {Pr : Nat → Prop} {β : Bt} {tm : List V} {a : Act} (hl : RL w Pr β tm a.tmps.toList) {b : Bool} (hw : wantE ops o tm = some b) : Region.wanted o (yielded ops a.tmps) = b := by
  unfold wantE at hw
  unfold Region.wanted
  cases hg : o.guard with
  | none => rw [hg] at hw; injection hw
  | some g =>
    obtain ⟨j, want⟩ := g
    rw [hg] at hw
    dsimp only at hw ⊢
    unfold yielded
    cases hd : (ops[j]?).bind (·.dst) with
    | none => rw [hd] at hw; injection hw with hw
    | some t =>
      rw [hd] at hw
      dsimp only at hw ⊢
      simp only [Option.bind_some]
      cases ht : tm[t]? with
      | none =>
        have h2 : a.tmps[t]? = none := by
          have := hl.1
          rw [List.getElem?_eq_none_iff] at ht
          simp at this ⊢
          omega
        rw [ht] at hw
        injection hw with hw
        subst hw
        rw [h2]
        rfl
      | some v =>
        obtain ⟨u, h2, h3⟩ := hl.get ht
        rw [Array.getElem?_toList] at h2
        rw [h2]
        rw [ht] at hw
        split at hw
        · rename_i b' heq
          injection hw with hw
          injection heq with heq
          subst heq
          rw [h3.sc_inv]
          subst hw
          cases b' <;> cases want <;> rfl
        · rename_i x heq
          injection hw with hw
          injection heq with heq
          subst heq
          rw [h3.sc_inv]
          subst hw
          rfl
        · cases ‹_ = none›
        · cases hw

theorem undef_put {s : St} {a : Act} {w : World} (hr : Rel P w0 Pr0 β0 s a w) (d : Option Tmp) : Rel P w0 Pr0 β0 (s.put d uv s.h) (a.put d undef) w := by
  obtain ⟨Pr, β, hb, hh, hl, hd⟩ := hr
  exact Rel.put hb hh hl hd (.refl ..) hh (RV.mk_sc _) _

theorem runE_wp (hO : OSound P (callE O)) {ops : Array Oper} {Q : Exit → Act → World → Prop} {s' : St} : ∀ (rest : List Oper) (k : Nat) (s : St) (a : Act) (w : World), ops.toList.drop k = rest → Rel P w0 Pr0 β0 s a w →
    runE P O ops rest s = some s' → (∀ a' w', Rel P w0 Pr0 β0 s' a' w' → Q .normal a' w') → wpOps P ops Q (List.range' k rest.length) a w := by
  intro rest
  induction rest with
  | nil =>
    intro k s a w _ hr he hq
    simp [runE] at he
    subst he
    exact hq _ _ hr
  | cons o rest ih =>
    intro k s a w hdrop hr he hq
    have hok : ops[k]? = some o := by
      have : (ops.toList.drop k)[0]? = some o := by rw [hdrop]; rfl
      simpa [List.getElem?_drop] using this
    have hrest : ops.toList.drop (k + 1) = rest := by
      rw [← List.drop_drop, hdrop]
      rfl
    rw [List.length_cons, List.range'_succ]
    unfold wpOps
    rw [hok]
    dsimp only
    unfold runE stepE at he
    cases hw : wantE ops o s.tm with
    | none => rw [hw] at he; cases he
    | some b =>
      obtain ⟨Pr, β, hb, hh, hl, hd⟩ := hr
      rw [want_wanted hl hw]
      rw [hw] at he
      simp only [Option.bind_some] at he
      cases b with
      | false =>
        simp only [Bool.false_eq_true, if_false, Option.bind_some] at he ⊢
        exact ih (k + 1) _ _ _ hrest (undef_put ⟨Pr, β, hb, hh, hl, hd⟩ o.dst) he hq
      | true =>
        simp only [if_true] at he ⊢
        cases hop : opE P O o s.ev s.h with
        | none => rw [hop] at he; cases he
        | some r =>
          rw [hop] at he
          simp only [Option.map_some, Option.bind_some] at he
          exact .inl (op_wp hO ⟨Pr, β, hb, hh, hl, hd⟩ hop fun a' w' hr' => ih (k + 1) _ a' w' hrest hr' he hq)

end
end Go.Ab
