/- An evaluator of the program over states of which some values are told, and that what it says the program does. -/
import Derived.Test.YthbnhmmdafkcfaaGreatEngD6
set_option linter.unusedVariables false
set_option linter.unusedSimpArgs false
namespace Go.Ab

theorem eqVal_eq : ∀ {a b : Value}, eqVal a b = true → a = b := by
  intro a b h
  unfold eqVal at h
  split at h <;> simp_all

theorem eqT_eq : ∀ {a b : T}, eqT a b = true → a = b := by
  intro a b h
  unfold eqT at h
  split at h
  · rw [eqVal_eq h]
  · cases h

theorem eqTs_eq : ∀ {a b : List T}, eqTs a b = true → a = b := by
  intro a
  induction a with
  | nil => intro b h; cases b with | nil => rfl | cons => simp [eqTs] at h
  | cons x l ih =>
    intro b h
    cases b with
    | nil => simp [eqTs] at h
    | cons y m =>
      simp [eqTs] at h
      rw [eqT_eq h.1, ih h.2]

mutual
theorem eqV_eq : ∀ (a b : V), eqV a b = true → a = b := by
  intro a b h
  cases a <;> cases b <;> simp only [eqV, Bool.and_eq_true, decide_eq_true_eq, Bool.false_eq_true] at h
  · rw [eqT_eq h]
  · obtain ⟨⟨rfl, rfl⟩, rfl⟩ := h; rfl
  · rw [eqTs_eq h]
  · obtain ⟨⟨⟨rfl, rfl⟩, rfl⟩, rfl⟩ := h; rfl
  · obtain ⟨⟨rfl, h1⟩, h2⟩ := h; rw [eqVs_eq _ _ h1, eqVs_eq _ _ h2]
  · obtain ⟨rfl, h1⟩ := h; rw [eqV_eq _ _ h1]
  · rw [h]
  · rw [h]
  · obtain ⟨rfl, h1⟩ := h; rw [eqV_eq _ _ h1]
  · rw [eqVs_eq _ _ h]
  · rw [eqVs_eq _ _ h]
  · rfl
theorem eqVs_eq : ∀ (a b : List V), eqVs a b = true → a = b := by
  intro a b h
  cases a with
  | nil => cases b with | nil => rfl | cons => simp [eqVs] at h
  | cons x l =>
    cases b with
    | nil => simp [eqVs] at h
    | cons y m =>
      simp only [eqVs, Bool.and_eq_true] at h
      rw [eqV_eq _ _ h.1, eqVs_eq _ _ h.2]
end

theorem eqVss_eq : ∀ {a b : List (List V)}, eqVss a b = true → a = b := by
  intro a
  induction a with
  | nil => intro b h; cases b with | nil => rfl | cons => simp [eqVss] at h
  | cons x l ih =>
    intro b h
    cases b with
    | nil => simp [eqVss] at h
    | cons y m =>
      simp [eqVss] at h
      rw [eqVs_eq _ _ h.1, ih h.2]

theorem eqEs_eq : ∀ {a b : List (Value × V × Nat)}, eqEs a b = true → a = b := by
  intro a
  induction a with
  | nil => intro b h; cases b with | nil => rfl | cons => simp [eqEs] at h
  | cons x l ih =>
    intro b h
    cases b with
    | nil => simp [eqEs] at h
    | cons y m =>
      obtain ⟨x1, x2, x3⟩ := x
      obtain ⟨y1, y2, y3⟩ := y
      simp [eqEs] at h
      obtain ⟨⟨⟨h1, h2⟩, h3⟩, h4⟩ := h
      rw [eqVal_eq h1, eqV_eq _ _ h2, h3, ih h4]

theorem eqB_eq : ∀ {a b : B}, eqB a b = true → a = b := by
  intro a b h
  cases a <;> cases b <;> simp only [eqB, Bool.and_eq_true, decide_eq_true_eq, Bool.false_eq_true] at h
  · obtain ⟨⟨rfl, h1⟩, rfl⟩ := h; rw [eqVss_eq h1]
  · obtain ⟨h1, rfl⟩ := h; rw [eqEs_eq h1]
  · rfl

theorem eqH_eq : ∀ {a b : H}, eqH a b = true → a = b := by
  intro a
  induction a with
  | nil => intro b h; cases b with | nil => rfl | cons => simp [eqH] at h
  | cons x l ih =>
    intro b h
    cases b with
    | nil => simp [eqH] at h
    | cons y m =>
      simp [eqH] at h
      rw [eqB_eq h.1, ih h.2]

theorem eqSt_eq {s s' : St} (h : eqSt s s' = true) : s = s' := by
  unfold eqSt at h
  simp only [Bool.and_eq_true] at h
  cases s; cases s'
  simp only at h
  rw [eqVs_eq _ _ h.1, eqH_eq h.2]

theorem insM_perm (x : Value × V × Nat) : ∀ (l : List (Value × V × Nat)), (insM x l).Perm (x :: l)
  | [] => .refl _
  | y :: l => by
    unfold insM
    split
    · exact .refl _
    · exact ((insM_perm x l).cons y).trans (.swap ..)

theorem sortM_perm : ∀ (l : List (Value × V × Nat)), (sortM l).Perm l
  | [] => .refl _
  | x :: l => (insM_perm x _).trans ((sortM_perm l).cons x)

section
variable {P : Program} {O : Orc} {w0 : World} {Pr0 : Nat → Prop} {β0 : Bt} {w : World} {Pr : Nat → Prop} {β : Bt}

/-- Entries in another order, with other stamps. -/
theorem EntsO.perm {es es' : List (Value × V × Nat)} (hp : es.Perm es') {l : List MapEntry} (hl : EntsO w Pr β es l) : ∃ l', l.Perm l' ∧ EntsO w Pr β es' l' := by
  induction hp generalizing l with
  | nil => exact ⟨l, .refl _, hl⟩
  | cons x _ ih =>
    have h0 := hl.2 0 _ rfl
    obtain ⟨u, bo, l0, rfl, hu, hl0⟩ := hl.cons
    obtain ⟨l', h1, h2⟩ := ih hl0
    refine ⟨⟨x.1, u, bo⟩ :: l', h1.cons _, by simp [h2.1], fun k e hk => ?_⟩
    cases k with
    | zero => simp at hk; subst hk; exact h0
    | succ k => exact h2.2 k e (by simpa using hk)
  | swap x y l1 =>
    have h0 := hl.2 0 _ rfl
    have h1 := hl.2 1 _ rfl
    obtain ⟨u, bo, l0, rfl, hu, hl0⟩ := hl.cons
    obtain ⟨u2, bo2, l2, rfl, hu2, hl2⟩ := hl0.cons
    refine ⟨_, .swap .., by simp [hl2.1], fun k e hk => ?_⟩
    match k with
    | 0 => simp at hk; subst hk; exact h1
    | 1 => simp at hk; subst hk; exact h0
    | k + 2 => exact hl2.2 k e (by simpa using hk)
  | trans _ _ ih1 ih2 =>
    obtain ⟨l1, h1, h2⟩ := ih1 hl
    obtain ⟨l2, h3, h4⟩ := ih2 h2
    exact ⟨l2, h1.trans h3, h4⟩

theorem EntsO.strip {es : List (Value × V × Nat)} {l : List MapEntry} (hl : EntsO w Pr β es l) : EntsO w Pr β (es.map fun e => (e.1, e.2.1, 0)) l :=
  ⟨by simp [hl.1], fun k e hk => by
    rw [List.getElem?_map] at hk
    obtain ⟨e0, h0, rfl⟩ := Option.map_eq_some_iff.1 hk
    obtain ⟨u, bo, h1, _, h2⟩ := hl.2 k e0 h0
    exact ⟨u, bo, h1, .inl rfl, h2⟩⟩

theorem RB.sort {b sz : Nat} {x : B} (h : RB P w Pr β b sz x) : RB P w Pr β b sz (sortB x) := by
  cases x with
  | map es c =>
    obtain ⟨L, l, h1, h2, h3, h4, h5, h6⟩ := h
    have ho : EntsO w Pr β es l := ⟨h3, h6⟩
    obtain ⟨l', h7, h8⟩ := ho.strip.perm (sortM_perm (es.map fun e => (e.1, e.2.1, 0))).symm
    exact ⟨L, l', h1, h2.trans h7, h8.1, fun x hx => h4 x (h7.mem_iff.2 hx), (h7.map _).nodup_iff.1 h5, h8.2⟩
  | _ => exact h

theorem sortB_gone {x : B} : sortB x = .gone ↔ x = .gone := by cases x <;> simp [sortB]

theorem Hp.sort {h : H} (hh : Hp P w Pr β h) : Hp P w Pr β (h.map sortB) where
  len := by simp [hh.len]
  lt := hh.lt
  blk := fun i x b sz h1 h2 => by
    rw [List.getElem?_map] at h1
    obtain ⟨x0, h0, rfl⟩ := Option.map_eq_some_iff.1 h1
    exact (hh.blk i x0 b sz h0 h2).sort
  inj := fun i i' b sz sz' h1 h2 => hh.inj i i' b sz sz' (by
      obtain ⟨x, hx, hn⟩ := h1
      rw [List.getElem?_map] at hx
      obtain ⟨x0, h0, rfl⟩ := Option.map_eq_some_iff.1 hx
      exact ⟨x0, h0, fun e => hn (sortB_gone.2 e)⟩) (by
      obtain ⟨x, hx, hn⟩ := h2
      rw [List.getElem?_map] at hx
      obtain ⟨x0, h0, rfl⟩ := Option.map_eq_some_iff.1 hx
      exact ⟨x0, h0, fun e => hn (sortB_gone.2 e)⟩)
  prot := hh.prot
  plt := hh.plt

theorem tup_ren {f : Nat → Nat} {v v' : V} {tm : List V} (h : ren f v = .tup tm) (hv : v = .tup v'.cells ∨ True) : ∃ vs, v = .tup vs ∧ tm = renL f vs := by
  cases v <;> simp [ren] at h
  exact ⟨_, rfl, h.symm⟩

theorem Rel.canon {s s' : St} {a : Act} {m : Nat} (hm : β0.length ≤ m) (hr : Rel P w0 Pr0 β0 s a w) (he : canonS m s = some s') : Rel P w0 Pr0 β0 s' a w := by
  obtain ⟨Pr1, β1, hb, hh, hl, hd⟩ := hr
  unfold canonS at he
  cases hg : gcE m (.tup s.tm) (s.h.map sortB) with
  | none => rw [hg] at he; cases he
  | some r =>
    obtain ⟨v, h'⟩ := r
    rw [hg] at he
    simp only [Option.bind_some] at he
    split at he
    · rename_i tm
      injection he with he
      subst he
      obtain ⟨β2, h1, h2, h3⟩ := gcE_sound hb hm hh.sort (RV.mk_tup hl) hg
      refine ⟨Pr1, β2, h1, h2, ?_, hd⟩
      obtain ⟨us, h4, h5⟩ := h3.tup_inv
      injection h4 with h4
      have : us = a.tmps.toList := by
        rw [← Array.toList_inj] at h4
        simpa using h4.symm
      rw [← this]
      exact h5
    · cases he

theorem addS_spec {l l' : List (Array Bool × St)} {x : Array Bool × St} (h : addS l x = some l') : x ∈ l' ∧ ∀ y ∈ l, y ∈ l' := by
  unfold addS at h
  split at h
  · rename_i y hy
    split at h
    · rename_i he
      injection h with h
      subst h
      have h1 := List.find?_some hy
      have h2 := List.mem_of_find?_eq_some hy
      simp at h1
      have h3 := eqSt_eq he
      have : y = x := Prod.ext h1 h3
      exact ⟨this ▸ h2, fun _ h => h⟩
    · cases h
  · injection h with h
    subst h
    exact ⟨by simp, fun y hy => by simp [hy]⟩

theorem ndOne_spec {ops : Array Oper} {m : Nat} {L : Array Bool} {s : St} : ∀ (is : List Nat) (acc acc' : List (Array Bool × St)), ndOne P O ops m L s is acc = some acc' →
    (∀ y ∈ acc, y ∈ acc') ∧ ∀ i ∈ is, ∃ o s1 s2, ops[i]? = some o ∧ stepE P O ops o s = some s1 ∧ canonS m s1 = some s2 ∧ (L.setIfInBounds i true, s2) ∈ acc' := by
  intro is
  induction is with
  | nil => intro acc acc' h; simp [ndOne] at h; subst h; exact ⟨fun _ h => h, by simp⟩
  | cons i is ih =>
    intro acc acc' h
    unfold ndOne at h
    cases ho : ops[i]? with
    | none => rw [ho] at h; cases h
    | some o =>
      rw [ho] at h
      simp only [Option.bind_some] at h
      cases h1 : stepE P O ops o s with
      | none => rw [h1] at h; cases h
      | some s1 =>
        rw [h1] at h
        simp only [Option.bind_some] at h
        cases h2 : canonS m s1 with
        | none => rw [h2] at h; cases h
        | some s2 =>
          rw [h2] at h
          simp only [Option.bind_some] at h
          cases h3 : addS acc (L.setIfInBounds i true, s2) with
          | none => rw [h3] at h; cases h
          | some acc1 =>
            rw [h3] at h
            simp only [Option.bind_some] at h
            obtain ⟨g1, g2⟩ := ih acc1 acc' h
            obtain ⟨g3, g4⟩ := addS_spec h3
            refine ⟨fun y hy => g1 y (g4 y hy), fun j hj => ?_⟩
            rcases List.mem_cons.1 hj with rfl | hj
            · exact ⟨o, s1, s2, ho, h1, h2, g1 _ g3⟩
            · exact g2 j hj

theorem ndLevel_spec {ops : Array Oper} {m : Nat} : ∀ (l acc acc' : List (Array Bool × St)), ndLevel P O ops m l acc = some acc' →
    (∀ y ∈ acc, y ∈ acc') ∧ ∀ x ∈ l, Region.ready .any ops x.1 ≠ [] ∧ ∀ i ∈ Region.ready .any ops x.1, ∃ o s1 s2, ops[i]? = some o ∧ stepE P O ops o x.2 = some s1 ∧ canonS m s1 = some s2 ∧ (x.1.setIfInBounds i true, s2) ∈ acc' := by
  intro l
  induction l with
  | nil => intro acc acc' h; simp [ndLevel] at h; subst h; exact ⟨fun _ h => h, by simp⟩
  | cons x l ih =>
    intro acc acc' h
    unfold ndLevel at h
    split at h
    · cases h
    · rename_i hne
      cases h1 : ndOne P O ops m x.1 x.2 (Region.ready .any ops x.1) acc with
      | none => rw [h1] at h; cases h
      | some acc1 =>
        rw [h1] at h
        simp only [Option.bind_some] at h
        obtain ⟨g1, g2⟩ := ndOne_spec _ _ _ h1
        obtain ⟨g3, g4⟩ := ih acc1 acc' h
        refine ⟨fun y hy => g3 y (g1 y hy), fun y hy => ?_⟩
        rcases List.mem_cons.1 hy with rfl | hy
        · refine ⟨fun e => hne (by rw [e]; rfl), fun i hi => ?_⟩
          obtain ⟨o, s1, s2, k1, k2, k3, k4⟩ := g2 i hi
          exact ⟨o, s1, s2, k1, k2, k3, g3 _ k4⟩
        · exact g4 y hy

/-- An operation of a region, by the evaluator. -/
theorem step_wpOp (hO : OSound P (callE O)) {ops : Array Oper} {o : Oper} {i : Nat} (ho : ops[i]? = some o) {s s1 : St} (he : stepE P O ops o s = some s1) {a : Act} {w : World} (hr : Rel P w0 Pr0 β0 s a w) {Q : Act → World → Prop} {Q' : Exit → Act → World → Prop}
    (hq : ∀ a' w', Rel P w0 Pr0 β0 s1 a' w' → Q a' w') : wpOp P ops Q' i Q a w := by
  unfold wpOp
  rw [ho]
  dsimp only
  have hr0 := hr
  obtain ⟨Pr, β, hb, hh, hl, hd⟩ := hr
  unfold stepE at he
  cases hw : wantE ops o s.tm with
  | none => rw [hw] at he; cases he
  | some b =>
    rw [hw] at he
    rw [want_wanted hl hw]
    simp only [Option.bind_some] at he
    cases b with
    | false =>
      simp only [Bool.false_eq_true, if_false] at he ⊢
      injection he with he
      subst he
      exact hq _ _ (undef_put hr0 o.dst)
    | true =>
      simp only [if_true] at he ⊢
      obtain ⟨r, h1, h2⟩ := Option.map_eq_some_iff.1 he
      subst h2
      exact .inl (op_wp hO hr0 h1 fun a' w' hr' => hq a' w' hr')

theorem nd_wp (hO : OSound P (callE O)) {ops : Array Oper} {m : Nat} (hm : β0.length ≤ m) {s' : St} {Q : Exit → Act → World → Prop} (hq : ∀ a' w', Rel P w0 Pr0 β0 s' a' w' → Q .normal a' w') :
    ∀ (n : Nat) (l : List (Array Bool × St)), ndRun P O ops m n l = some s' → ∀ L s, (L, s) ∈ l → ∀ a w, Rel P w0 Pr0 β0 s a w → wpAny P .any ops Q n L a w := by
  intro n
  induction n with
  | zero =>
    intro l he L s hm a w hr
    match l, he with
    | [x], he =>
      unfold ndRun at he
      split at he
      · rename_i hx
        injection he with he
        subst he
        simp at hm
        subst hm
        exact ⟨by simpa using hx, hq a w hr⟩
      · cases he
    | [], he => simp [ndRun] at he
    | _ :: _ :: _, he => simp [ndRun] at he
  | succ n ih =>
    intro l he L s hm a w hr
    unfold ndRun at he
    cases h1 : ndLevel P O ops m l [] with
    | none => rw [h1] at he; cases he
    | some l1 =>
      rw [h1] at he
      simp only [Option.bind_some] at he
      obtain ⟨_, h2⟩ := ndLevel_spec l [] l1 h1
      obtain ⟨h3, h4⟩ := h2 _ hm
      refine ⟨fun e => absurd e h3, fun i hi => ?_⟩
      obtain ⟨o, s1, s2, k1, k2, k3, k4⟩ := h4 i hi
      exact step_wpOp hO k1 k2 hr fun a' w' hr' => ih l1 he _ _ k4 a' w' (Rel.canon (by assumption) hr' k3)

theorem ndE_wp (hO : OSound P (callE O)) {ops : Array Oper} {s s' : St} (he : ndE P O ops s = some s') {a : Act} {w : World} {Q : Exit → Act → World → Prop}
    (hr : Rel P w0 Pr0 β0 s a w) (hq : ∀ a' w', Rel P w0 Pr0 β0 s' a' w' → Q .normal a' w') : wpAny P .any ops Q ops.size (Array.replicate ops.size false) a w := by
  have hm : β0.length ≤ s.h.length := by
    obtain ⟨Pr, β, hb, hh, hl, hd⟩ := hr
    rw [← hh.len]
    rcases Nat.lt_or_ge β.length β0.length with h | h
    · have := hb.be β.length _ (List.getElem?_eq_getElem h)
      rw [List.getElem?_eq_none (Nat.le_refl _)] at this
      cases this
    · exact h
  exact nd_wp hO hm hq ops.size _ he _ s (by simp) a w hr

end
end Go.Ab
