/- An evaluator of the program over states of which some values are told, and that what it says the program does. -/
import Derived.Test.YthbnhmmdafkcfaaGreatEngD8
import GoSem.ClaimChange
set_option linter.unusedVariables false
set_option linter.unusedSimpArgs false
namespace Go.Ab

/-- From some number on. -/
def Ev (p : Nat → Prop) : Prop := ∃ n, ∀ m, n ≤ m → p m

theorem Ev.of {p : Nat → Prop} (h : ∀ m, p m) : Ev p := ⟨0, fun m _ => h m⟩
theorem Ev.mp {p q : Nat → Prop} (h : Ev p) (k : ∀ m, p m → q m) : Ev q := h.imp fun n hn m hm => k m (hn m hm)
theorem Ev.and {p q : Nat → Prop} (h : Ev p) (k : Ev q) : Ev fun m => p m ∧ q m := by
  obtain ⟨n, hn⟩ := h
  obtain ⟨n', hn'⟩ := k
  exact ⟨max n n', fun m hm => ⟨hn m (by omega), hn' m (by omega)⟩⟩

section
variable {P : Program} {O : Orc} {On : Nat → Orc}

theorem callE_ev (hO : ∀ K args h r, O K args h = some r → Ev fun m => On m K args h = some r) {K : FuncId} {args : List V} {h : H} {r : V × H} (he : callE O K args h = some r) : Ev fun m => callE (On m) K args h = some r := by
  unfold callE at he ⊢
  dsimp only at he ⊢
  split at he
  · rename_i hc
    cases hk : O K (renL (place (reach h 400 [] (refsL args))) args) (Ab.sub h (reach h 400 [] (refsL args))) with
    | none => rw [hk] at he; cases he
    | some q =>
      rw [hk] at he
      refine (hO _ _ _ _ hk).mp fun m hm => ?_
      rw [if_pos hc, hm]
      exact he
  · cases he

theorem calls_ev (hO : ∀ K args h r, O K args h = some r → Ev fun m => On m K args h = some r) {f : V} {args : List V} {h : H} {r : V × H} (he : calls P O f args h = some r) : Ev fun m => calls P (On m) f args h = some r := by
  unfold calls at he ⊢
  cases hc : callArgs P f args with
  | none => rw [hc] at he; cases he
  | some c =>
    rw [hc] at he
    exact callE_ev hO he

theorem opE_ev (hO : ∀ K args h r, O K args h = some r → Ev fun m => On m K args h = some r) {o : Oper} {ρ : Operand → V} {h : H} {r : V × H} (he : opE P O o ρ h = some r) : Ev fun m => opE P (On m) o ρ h = some r := by
  unfold opE at he ⊢
  cases hop : o.op with
  | call c =>
    obtain ⟨callee, args, ats⟩ := c
    rw [hop] at he
    cases callee with
    | value f => exact calls_ev hO he
    | invoke r name => exact calls_ev hO he
    | builtin b => cases b <;> exact Ev.of fun _ => he
  | makeFunc f a b => rw [hop] at he; cases f <;> exact Ev.of fun _ => he
  | makeMap t r => rw [hop] at he; cases r <;> exact Ev.of fun _ => he
  | next x s => rw [hop] at he; cases s <;> exact Ev.of fun _ => he
  | slice t x lo hi mx => rw [hop] at he; cases mx <;> exact Ev.of fun _ => he
  | _ => rw [hop] at he; exact Ev.of fun _ => he

theorem runE_ev (hO : ∀ K args h r, O K args h = some r → Ev fun m => On m K args h = some r) {ops : Array Oper} : ∀ (l : List Oper) (s s' : St), runE P O ops l s = some s' → Ev fun m => runE P (On m) ops l s = some s' := by
  intro l
  induction l with
  | nil => intro s s' he; exact Ev.of fun _ => he
  | cons o l ih =>
    intro s s' he
    unfold runE stepE at he ⊢
    cases hw : wantE ops o s.tm with
    | none => rw [hw] at he; cases he
    | some b =>
      rw [hw] at he
      simp only [Option.bind_some] at he ⊢
      cases b with
      | false =>
        simp only [Bool.false_eq_true, if_false, Option.bind_some] at he ⊢
        exact ih _ _ he
      | true =>
        simp only [if_true] at he ⊢
        cases hop : opE P O o s.ev s.h with
        | none => rw [hop] at he; cases he
        | some r =>
          rw [hop] at he
          simp only [Option.map_some, Option.bind_some] at he
          exact ((opE_ev hO hop).and (ih _ _ he)).mp fun m hm => by
            rw [hm.1]
            simp only [Option.map_some, Option.bind_some]
            exact hm.2

theorem drawE_ev (hO : ∀ K args h r, O K args h = some r → Ev fun m => On m K args h = some r) {ops : Array Oper} {bs : List Nat} : ∀ (l : List Oper) (k : Nat) (rs ms : List (Nat × Foot)) (s s' : St), drawE P O ops bs l k rs ms s = some s' → Ev fun m => drawE P (On m) ops bs l k rs ms s = some s' := by
  intro l
  induction l with
  | nil => intro k rs ms s s' he; exact Ev.of fun _ => he
  | cons o l ih =>
    intro k rs ms s s' he
    unfold drawE at he ⊢
    cases hw : wantE ops o s.tm with
    | none => rw [hw] at he; cases he
    | some b =>
      rw [hw] at he
      simp only [Option.bind_some] at he ⊢
      cases b with
      | false =>
        simp only [Bool.false_eq_true, if_false] at he ⊢
        exact ih _ _ _ _ _ he
      | true =>
        simp only [if_true] at he ⊢
        split at he
        · rename_i hc
          cases hop : opE P O o s.ev s.h with
          | none => rw [hop] at he; cases he
          | some r =>
            rw [hop] at he
            simp only [Option.bind_some] at he
            exact ((opE_ev hO hop).and (ih _ _ _ _ _ he)).mp fun m hm => by
              rw [if_pos hc, hm.1]
              simp only [Option.bind_some]
              exact hm.2
        · cases he

theorem stepE_ev (hO : ∀ K args h r, O K args h = some r → Ev fun m => On m K args h = some r) {ops : Array Oper} {o : Oper} {s s' : St} (he : stepE P O ops o s = some s') : Ev fun m => stepE P (On m) ops o s = some s' := by
  unfold stepE at he ⊢
  cases hw : wantE ops o s.tm with
  | none => rw [hw] at he; cases he
  | some b =>
    rw [hw] at he
    simp only [Option.bind_some] at he ⊢
    cases b with
    | false => exact Ev.of fun _ => he
    | true =>
      simp only [if_true] at he ⊢
      obtain ⟨r, h1, h2⟩ := Option.map_eq_some_iff.1 he
      exact (opE_ev hO h1).mp fun m hm => by rw [hm]; simp [h2]

theorem ndOne_ev (hO : ∀ K args h r, O K args h = some r → Ev fun m => On m K args h = some r) {ops : Array Oper} {m : Nat} {L : Array Bool} {s : St} : ∀ (is : List Nat) (acc acc' : List (Array Bool × St)), ndOne P O ops m L s is acc = some acc' → Ev fun n => ndOne P (On n) ops m L s is acc = some acc' := by
  intro is
  induction is with
  | nil => intro acc acc' he; exact Ev.of fun _ => he
  | cons i is ih =>
    intro acc acc' he
    unfold ndOne at he ⊢
    cases ho : ops[i]? with
    | none => rw [ho] at he; cases he
    | some o =>
      rw [ho] at he
      simp only [Option.bind_some] at he ⊢
      cases h1 : stepE P O ops o s with
      | none => rw [h1] at he; cases he
      | some s1 =>
        rw [h1] at he
        simp only [Option.bind_some] at he
        cases h2 : canonS m s1 with
        | none => rw [h2] at he; cases he
        | some s2 =>
          rw [h2] at he
          simp only [Option.bind_some] at he
          cases h3 : addS acc (L.setIfInBounds i true, s2) with
          | none => rw [h3] at he; cases he
          | some acc1 =>
            rw [h3] at he
            simp only [Option.bind_some] at he
            exact ((stepE_ev hO h1).and (ih acc1 acc' he)).mp fun n hn => by
              rw [hn.1]
              simp only [Option.bind_some, h2, h3]
              exact hn.2

theorem ndLevel_ev (hO : ∀ K args h r, O K args h = some r → Ev fun m => On m K args h = some r) {ops : Array Oper} {m : Nat} : ∀ (l acc acc' : List (Array Bool × St)), ndLevel P O ops m l acc = some acc' → Ev fun n => ndLevel P (On n) ops m l acc = some acc' := by
  intro l
  induction l with
  | nil => intro acc acc' he; exact Ev.of fun _ => he
  | cons x l ih =>
    intro acc acc' he
    unfold ndLevel at he ⊢
    split at he
    · cases he
    · rename_i hne
      cases h1 : ndOne P O ops m x.1 x.2 (Region.ready .any ops x.1) acc with
      | none => rw [h1] at he; cases he
      | some acc1 =>
        rw [h1] at he
        simp only [Option.bind_some] at he
        exact ((ndOne_ev hO _ _ _ h1).and (ih _ _ he)).mp fun n hn => by
          rw [if_neg hne, hn.1]
          exact hn.2

theorem ndRun_ev (hO : ∀ K args h r, O K args h = some r → Ev fun m => On m K args h = some r) {ops : Array Oper} {m : Nat} {s' : St} : ∀ (k : Nat) (l : List (Array Bool × St)), ndRun P O ops m k l = some s' → Ev fun n => ndRun P (On n) ops m k l = some s' := by
  intro k
  induction k with
  | zero =>
    intro l he
    match l, he with
    | [x], he => exact Ev.of fun _ => he
    | [], he => simp [ndRun] at he
    | _ :: _ :: _, he => simp [ndRun] at he
  | succ k ih =>
    intro l he
    unfold ndRun at he ⊢
    cases h1 : ndLevel P O ops m l [] with
    | none => rw [h1] at he; cases he
    | some l1 =>
      rw [h1] at he
      simp only [Option.bind_some] at he
      exact ((ndLevel_ev hO _ _ _ h1).and (ih _ he)).mp fun n hn => by
        rw [hn.1]
        exact hn.2

theorem ndE_ev (hO : ∀ K args h r, O K args h = some r → Ev fun m => On m K args h = some r) {ops : Array Oper} {s s' : St} (he : ndE P O ops s = some s') : Ev fun n => ndE P (On n) ops s = some s' := ndRun_ev hO _ _ he

theorem regE_ev (hO : ∀ K args h r, O K args h = some r → Ev fun m => On m K args h = some r) {ops : Array Oper} {draw : Bool} {s s' : St} (he : regE P O ops draw s = some s') : Ev fun m => regE P (On m) ops draw s = some s' := by
  unfold regE at he ⊢
  cases draw with
  | false => simp only [Bool.false_eq_true, if_false] at he ⊢; exact runE_ev hO _ _ _ he
  | true =>
    simp only [if_true] at he ⊢
    split at he
    · rename_i hok
      exact (drawE_ev hO _ _ _ _ _ _ he).mp fun m hm => by rw [if_pos hok]; exact hm
    · rename_i hok
      exact (ndE_ev hO he).mp fun m hm => by rw [if_neg hok]; exact hm

theorem iter_ev {f : St → Option (Ex × St)} {fn : Nat → St → Option (Ex × St)} (hf : ∀ s r, f s = some r → Ev fun m => fn m s = some r) : ∀ (j : Nat) (s : St) (r : Ex × St), iter j f s = some r → ∃ n, ∀ m, n ≤ m → ∀ k, n ≤ k → iter k (fn m) s = some r := by
  intro j
  induction j with
  | zero => intro s r he; cases he
  | succ j ih =>
    intro s r he
    unfold iter at he
    cases h1 : f s with
    | none => rw [h1] at he; cases he
    | some q =>
      obtain ⟨ex, s1⟩ := q
      rw [h1] at he
      simp only [Option.bind_some] at he
      obtain ⟨n1, hn1⟩ := hf s _ h1
      cases ex with
      | normal =>
        obtain ⟨n2, hn2⟩ := ih s1 r he
        refine ⟨max n1 n2 + 1, fun m hm k hk => ?_⟩
        obtain ⟨k, rfl⟩ : ∃ k', k = k' + 1 := ⟨k - 1, by omega⟩
        unfold iter
        rw [hn1 m (by omega)]
        exact hn2 m (by omega) k (by omega)
      | exit id =>
        refine ⟨n1 + 1, fun m hm k hk => ?_⟩
        obtain ⟨k, rfl⟩ : ∃ k', k = k' + 1 := ⟨k - 1, by omega⟩
        unfold iter
        rw [hn1 m (by omega)]
        exact he
      | ret =>
        refine ⟨n1 + 1, fun m hm k hk => ?_⟩
        obtain ⟨k, rfl⟩ : ∃ k', k = k' + 1 := ⟨k - 1, by omega⟩
        unfold iter
        rw [hn1 m (by omega)]
        exact he

theorem evC_ev (hO : ∀ K args h r, O K args h = some r → Ev fun m => On m K args h = some r) : ∀ (c : Code) (s : St) (r : Ex × St), evC P O loopE c s = some r → Ev fun m => evC P (On m) (iter m) c s = some r := by
  intro c
  induction c with
  | skip => intro s r he; exact Ev.of fun _ => he
  | region id ops draw =>
    intro s r he
    unfold evC at he ⊢
    obtain ⟨s1, h1, h2⟩ := Option.map_eq_some_iff.1 he
    exact (regE_ev hO h1).mp fun m hm => by rw [hm]; simp [h2]
  | seq x y ihx ihy =>
    intro s r he
    unfold evC at he ⊢
    cases hx : evC P O loopE x s with
    | none => rw [hx] at he; cases he
    | some q =>
      obtain ⟨ex, s1⟩ := q
      rw [hx] at he
      simp only [Option.bind_some] at he
      cases ex with
      | normal => exact ((ihx _ _ hx).and (ihy _ _ he)).mp fun m hm => by rw [hm.1]; exact hm.2
      | exit id => exact (ihx _ _ hx).mp fun m hm => by rw [hm]; exact he
      | ret => exact (ihx _ _ hx).mp fun m hm => by rw [hm]; exact he
  | cond c x y ihx ihy =>
    intro s r he
    unfold evC at he ⊢
    cases hc : asB (s.ev c) with
    | none => rw [hc] at he; cases he
    | some t =>
      rw [hc] at he
      simp only [Option.bind_some] at he ⊢
      cases t with
      | true => exact ihx _ _ he
      | false => exact ihy _ _ he
  | block id x ih =>
    intro s r he
    unfold evC at he ⊢
    obtain ⟨q, h1, h2⟩ := Option.map_eq_some_iff.1 he
    exact (ih _ _ h1).mp fun m hm => by rw [hm]; simp [← h2]
  | loop x ih =>
    intro s r he
    unfold evC at he ⊢
    obtain ⟨j, hj⟩ := loopE_spec he
    obtain ⟨n, hn⟩ := iter_ev (fn := fun m => evC P (On m) (iter m) x) ih j s r hj
    exact ⟨n, fun m hm => hn m hm m hm⟩
  | exit id => intro s r he; exact Ev.of fun _ => he
  | ret => intro s r he; exact Ev.of fun _ => he
  | _ => intro s r he; simp [evC] at he

theorem evF_ev (hO : ∀ K args h r, O K args h = some r → Ev fun m => On m K args h = some r) {K : FuncId} {args : List V} {h : H} {r : V × H} (he : evF P O loopE K args h = some r) : Ev fun m => evF P (On m) (iter m) K args h = some r := by
  unfold evF at he ⊢
  cases hf : P.funcs[K]? with
  | none => rw [hf] at he; cases he
  | some f =>
    rw [hf] at he
    simp only [Option.bind_some] at he ⊢
    cases hb : f.body with
    | none => rw [hb] at he; cases he
    | some c =>
      rw [hb] at he
      simp only [Option.bind_some] at he ⊢
      split at he
      · cases he
      · rename_i hn
        unfold evB at he ⊢
        cases hc : evC P O loopE c ⟨args ++ List.replicate (f.ntmps - args.length) uv, h⟩ with
        | none => rw [hc] at he; cases he
        | some q =>
          rw [hc] at he
          exact (evC_ev hO _ _ _ hc).mp fun m hm => by rw [if_neg hn, hm]; exact he

end

theorem E_X {P : Program} {X : Orc} {K : FuncId} {args : List V} {h : H} {r : V × H} (hx : X K args h = some r) : E P X K args h = some r :=
  lim_eq ⟨0, fun m _ => by
    cases m with
    | zero => exact hx
    | succ m => unfold evN; rw [hx]⟩

/-- A function by its body. -/
theorem E_of {P : Program} {X : Orc} {K : FuncId} {args : List V} {h : H} {r : V × H} (hx : X K args h = none) (he : evF P (E P X) loopE K args h = some r) : E P X K args h = some r := by
  obtain ⟨n, hn⟩ := evF_ev (On := fun m => evN P X m) (fun K args h r hr => lim_spec hr) he
  refine lim_eq ⟨n + 1, fun m hm => ?_⟩
  obtain ⟨m, rfl⟩ : ∃ k, m = k + 1 := ⟨m - 1, by omega⟩
  unfold evN
  rw [hx]
  exact hn m (by omega)

end Go.Ab

set_option linter.unusedVariables false
set_option linter.unusedSimpArgs false
namespace Go.Ab

section
variable {P : Program} {X : Orc} {O : Orc}

/-- A function by a run of its body. -/
theorem E_fn {K : FuncId} {f : Func} {c : Code} {args : List V} {h : H} {ex : Ex} {s' : St} {v : V} {r : V × H} (hx : X K args h = none) (hf : P.funcs[K]? = some f) (hb : f.body = some c) (hn : (f.name == "runtime.NumGoroutine") = false)
    (hc : evC P (E P X) loopE c ⟨args ++ List.replicate (f.ntmps - args.length) uv, h⟩ = some (ex, s')) (hex : ∀ id, ex ≠ .exit id) (hr : resE P s' f.results.toList = some v) (hg : gcE h.length v s'.h = some r) : E P X K args h = some r := by
  refine E_of hx ?_
  unfold evF evB
  rw [hf, Option.bind_some, hb, Option.bind_some, hn, hc]
  simp only [Option.bind_some, Bool.false_eq_true, if_false]
  cases ex with
  | normal => rw [hr]; exact hg
  | exit id => exact absurd rfl (hex id)
  | ret => rw [hr]; exact hg

mutual
theorem ren_id (f : Nat → Nat) : ∀ (v : V), (∀ i ∈ refs v, f i = i) → ren f v = v
  | .tr t, _ => by rw [ren]
  | .ptr i j o, h => by rw [ren, h i (by simp [refs])]
  | .ep cs, _ => by rw [ren]
  | .row i j n c, h => by rw [ren, h i (by simp [refs])]
  | .fn g a b, h => by
    rw [ren, renL_id f a (fun i hi => h i (by rw [refs]; exact List.mem_append.2 (.inl hi))), renL_id f b (fun i hi => h i (by rw [refs]; exact List.mem_append.2 (.inr hi)))]
  | .mth m r, h => by rw [ren, ren_id f r (fun i hi => h i (by rw [refs]; exact hi))]
  | .mp i, h => by rw [ren, h i (by simp [refs])]
  | .it i, h => by rw [ren, h i (by simp [refs])]
  | .ifc t v, h => by rw [ren, ren_id f v (fun i hi => h i (by rw [refs]; exact hi))]
  | .agg cs, h => by rw [ren, renL_id f cs (fun i hi => h i (by rw [refs]; exact hi))]
  | .tup vs, h => by rw [ren, renL_id f vs (fun i hi => h i (by rw [refs]; exact hi))]
  | .dead, _ => by rw [ren]
theorem renL_id (f : Nat → Nat) : ∀ (l : List V), (∀ i ∈ refsL l, f i = i) → renL f l = l
  | [], _ => by rw [renL]
  | v :: vs, h => by
    rw [renL, ren_id f v (fun i hi => h i (by rw [refsL]; exact List.mem_append.2 (.inl hi))), renL_id f vs (fun i hi => h i (by rw [refsL]; exact List.mem_append.2 (.inr hi)))]
end

theorem refsL_nil {l : List V} : refsL l = [] ↔ ∀ v ∈ l, refs v = [] := by
  induction l with
  | nil => simp [refsL]
  | cons v vs ih => simp [refsL, ih]

/-- A call of which no argument leads into memory. -/
theorem callE_pure {K : FuncId} {args : List V} {v : V} {h : H} (ha : refsL args = []) (hv : refs v = []) (ho : O K args [] = some (v, [])) : callE O K args h = some (v, h) := by
  have hin : args.all (inV []) = true := List.all_eq_true.2 fun x hx => by
    have := refsL_nil.1 ha x hx
    simp [inV, this]
  have hreach : reach h 400 [] [] = [] := by rw [reach]
  unfold callE
  rw [ha, hreach]
  dsimp only
  rw [hin, renL_id _ _ (by rw [ha]; simp)]
  have : Ab.sub h [] = [] := rfl
  rw [this, ho]
  simp only [List.all_nil, Bool.and_self, if_true, Option.bind_some, List.length_nil, Nat.le_refl, List.take_nil, List.map_nil, List.drop_nil, List.append_nil]
  rw [ren_id _ _ (by rw [hv]; simp)]
  cases h <;> rfl

end
end Go.Ab

set_option linter.unusedVariables false
set_option linter.unusedSimpArgs false
namespace Go.Ab

/-- The bodies of the loops, from the outside in, in the text's order. -/
def loops : Code → List Code
  | .seq a b => loops a ++ loops b
  | .cond _ a b => loops a ++ loops b
  | .block _ a => loops a
  | .loop a => a :: loops a
  | _ => []
def lp (f : Func) (n : Nat) : Code := ((f.body.map loops).getD []).getD n .skip

/-- A loop's body, not unfolded. -/
@[irreducible] def lpB (P : Program) (O : Orc) (L : Lp) (a : Code) : St → Option (Ex × St) := evC P O L a

section
variable {P : Program} {O : Orc} {L : Lp}
theorem lpB_run (a : Code) (s : St) : lpB P O L a s = evC P O L a s := by unfold lpB; rfl
theorem evC_skip (s : St) : evC P O L .skip s = some (.normal, s) := rfl
theorem evC_region (id : Nat) (ops : Array Oper) (draw : Bool) (s : St) : evC P O L (.region id ops draw) s = (regE P O ops draw s).map fun s => (.normal, s) := rfl
theorem evC_seq (a b : Code) (s : St) : evC P O L (.seq a b) s = (evC P O L a s).bind fun r => match r.1 with | .normal => evC P O L b r.2 | _ => some r := rfl
theorem evC_cond (c : Operand) (a b : Code) (s : St) : evC P O L (.cond c a b) s = (asB (s.ev c)).bind fun t => if t then evC P O L a s else evC P O L b s := rfl
theorem evC_block (id : Nat) (a : Code) (s : St) : evC P O L (.block id a) s = (evC P O L a s).map fun r => (if r.1 = .exit id then .normal else r.1, r.2) := rfl
theorem evC_loop (a : Code) (s : St) : evC P O L (.loop a) s = L (lpB P O L a) s := by unfold lpB; rfl
theorem evC_exit (id : Nat) (s : St) : evC P O L (.exit id) s = some (.exit id, s) := rfl
theorem evC_ret (s : St) : evC P O L .ret s = some (.ret, s) := rfl
end

theorem wrap_id {n : Int} (h1 : 0 ≤ n) (h2 : n < 9223372036854775808) : IntKind.i64.wrap n = n := by
  simp [IntKind.wrap, IntKind.bits, IntKind.signed]
  omega
theorem wrap8 (b : UInt8) : IntKind.i64.wrap (b.toNat : Int) = b.toNat := wrap_id (by omega) (by have := b.toNat_lt; omega)

attribute [simp] evC_skip evC_region evC_seq evC_cond evC_block evC_loop evC_exit evC_ret regE runE stepE wantE opE St.ev St.put binE isShift binI asB asI ofVal resE resL res1 loadE storeE fldAE fldE partV TD.agg getB setL V.cells V.one Value.oneCell' calls callArgs gcE reach refs refsL inV ren renL sub evF evB lenE ixE idxE convE unE

end Go.Ab

set_option linter.unusedVariables false
set_option linter.unusedSimpArgs false
namespace Go.Ab

theorem skolem {α : Type} {p : Nat → α → Prop} : ∀ (n : Nat), (∀ i, i < n → ∃ y, p i y) → ∃ ys : List α, ys.length = n ∧ ∀ i y, ys[i]? = some y → p i y
  | 0, _ => ⟨[], rfl, fun i y h => by simp at h⟩
  | n + 1, h => by
    obtain ⟨ys, h1, h2⟩ := skolem n fun i hi => h i (by omega)
    obtain ⟨y, hy⟩ := h n (by omega)
    refine ⟨ys ++ [y], by simp [h1], fun i z hz => ?_⟩
    rcases getElem?_append_one hz with h3 | ⟨h3, rfl⟩
    · exact h2 i z h3
    · rw [h3, h1]; exact hy

theorem mapM_get {α β : Type} {f : α → Option β} : ∀ {l : List α} {xs : List β}, l.mapM f = some xs → xs.length = l.length ∧ ∀ (i : Nat) (x : α), l[i]? = some x → ∃ y : β, xs[i]? = some y ∧ f x = some y
  | [], xs, h => by
    simp at h
    subst h
    exact ⟨rfl, fun i x h => by simp at h⟩
  | a :: l, xs, h => by
    rw [List.mapM_cons] at h
    cases ha : f a with
    | none => simp [ha] at h
    | some y =>
      cases hl : l.mapM f with
      | none => simp [ha, hl] at h
      | some ys =>
        simp [ha, hl] at h
        subst h
        obtain ⟨h1, h2⟩ := mapM_get hl
        refine ⟨by simp [h1], fun i x hx => ?_⟩
        cases i with
        | zero => simp at hx; subst hx; exact ⟨y, rfl, ha⟩
        | succ i => simp at hx; simpa using h2 i x hx

/-- Types of plain data. -/
def plainT (P : Program) : Nat → TypeId → Bool
  | 0, _ => false
  | n + 1, t =>
    match P.underlying t with
    | some .bool => true
    | some (.int _) => true
    | some .string => true
    | some (.slice e) => decide (0 < szT P e) && plainT P n e
    | some (.struct fs) => (contig P 0 fs.toList == some (szT P t)) && fs.toList.all fun f => plainT P n f.type
    | some (.array m e) => (szT P t == m * szT P e) && plainT P n e
    | _ => false

/-- Trees of plain data, well formed. -/
def WfT (P : Program) : Nat → TypeId → List T → Prop
  | 0, _, _ => False
  | n + 1, t, ts =>
    match P.underlying t with
    | some .bool => ∃ b, ts = [.sc (.bool b)]
    | some (.int k) => ∃ m, ts = [.sc (.int k m)] ∧ (Lit.int k m).wf = true
    | some .string => ∃ s, ts = [.sc (.string s)] ∧ s.size ≤ maxLen
    | some (.slice e) => ts = [.sc (.slice none 0 0)] ∨ ∃ es, ts = [.sl (szT P e) es] ∧ es.length ≤ maxLen ∧ ∀ x ∈ es, x.length = szT P e ∧ WfT P n e x
    | some (.struct fs) => ts.length = szT P t ∧ ∀ f ∈ fs.toList, WfT P n f.type ((ts.drop f.offset).take (szT P f.type))
    | some (.array m e) => ts.length = szT P t ∧ ∀ i, i < m → WfT P n e ((ts.drop (i * szT P e)).take (szT P e))
    | _ => False

section
variable {P : Program} {w : World} {Pr : Nat → Prop} {β : Bt}

/-- Fields side by side: a whole made of what is told of each. -/
theorem fields_whole {q : TypeId → List T → Prop} {cs : List Value} : ∀ (fs : List Field) (acc tot : Nat), contig P acc fs = some tot → cs.length = tot →
    (∀ f ∈ fs, ∃ ts : List T, ts.length = szT P f.type ∧ RL w Pr β (ts.map .tr) ((cs.drop f.offset).take (szT P f.type)) ∧ q f.type ts) →
    ∃ ts : List T, acc + ts.length = tot ∧ RL w Pr β (ts.map .tr) (cs.drop acc) ∧ ∀ f ∈ fs, acc ≤ f.offset ∧ q f.type ((ts.drop (f.offset - acc)).take (szT P f.type))
  | [], acc, tot, hc, hl, _ => by
    simp [contig] at hc
    subst hc
    refine ⟨[], rfl, ?_, fun f hf => by simp at hf⟩
    rw [List.drop_eq_nil_of_le (by omega)]
    exact .nil
  | f :: fs, acc, tot, hc, hl, hq => by
    rw [contig] at hc
    split at hc
    · rename_i ho
      have hle := contig_le fs _ _ hc
      obtain ⟨t1, h1, h2, h3⟩ := hq f (by simp)
      obtain ⟨t2, h4, h5, h6⟩ := fields_whole fs _ _ hc hl fun g hg => hq g (by simp [hg])
      refine ⟨t1 ++ t2, by simp; omega, ?_, fun g hg => ?_⟩
      · rw [List.map_append]
        have : cs.drop acc = (cs.drop acc).take (szT P f.type) ++ cs.drop (acc + szT P f.type) := by
          rw [← List.drop_drop, List.take_append_drop]
        rw [this]
        rw [ho] at h2
        exact h2.append h5
      · rcases List.mem_cons.1 hg with rfl | hg
        · refine ⟨by omega, ?_⟩
          rw [ho, Nat.sub_self, List.drop_zero, ← h1, List.take_left]
          exact h3
        · obtain ⟨h7, h8⟩ := h6 g hg
          refine ⟨by omega, ?_⟩
          rw [List.drop_append, List.drop_eq_nil_of_le (by omega), List.nil_append, show g.offset - acc - t1.length = g.offset - (acc + szT P f.type) by omega]
          exact h8
    · cases hc


/-- Elements side by side. -/
theorem elems_whole {q : List T → Prop} {sz : Nat} {cs : List Value} : ∀ (m : Nat), m * sz ≤ cs.length →
    (∀ i, i < m → ∃ ts : List T, ts.length = sz ∧ RL w Pr β (ts.map .tr) ((cs.drop (i * sz)).take sz) ∧ q ts) →
    ∃ ts : List T, ts.length = m * sz ∧ RL w Pr β (ts.map .tr) (cs.take (m * sz)) ∧ ∀ i, i < m → q ((ts.drop (i * sz)).take sz)
  | 0, _, _ => ⟨[], by simp, by simpa using RL.nil, fun i hi => by omega⟩
  | m + 1, hl, hq => by
    have hm : (m + 1) * sz = m * sz + sz := Nat.succ_mul m sz
    obtain ⟨t1, h1, h2, h3⟩ := elems_whole m (by omega) fun i hi => hq i (by omega)
    obtain ⟨t2, h4, h5, h6⟩ := hq m (by omega)
    refine ⟨t1 ++ t2, by simp; omega, ?_, fun i hi => ?_⟩
    · rw [List.map_append, hm, List.take_add]
      exact h2.append h5
    · rcases Nat.lt_or_ge i m with hlt | hge
      · have hi1 : i * sz + sz ≤ m * sz := by rw [← Nat.succ_mul]; exact Nat.mul_le_mul_right _ hlt
        rw [List.drop_append_of_le_length (by omega), List.take_append_of_le_length (by simp; omega)]
        exact h3 i hlt
      · have : i = m := by omega
        subst this
        rw [← h1, List.drop_left, List.take_of_length_le (by omega)]
        exact h6

theorem contig_field : ∀ (fs : List Field) (acc tot : Nat), contig P acc fs = some tot → ∀ f ∈ fs, f.offset + szT P f.type ≤ tot
  | [], _, _, _, f, hf => by simp at hf
  | g :: fs, acc, tot, hc, f, hf => by
    rw [contig] at hc
    split at hc
    · rename_i ho
      rcases List.mem_cons.1 hf with rfl | hf
      · have := contig_le fs _ _ hc
        omega
      · exact contig_field fs _ _ hc f hf
    · cases hc

theorem trod_wf {H : Type} {enc : TypeId × Value → H} {base : Nat} {spare : Nat → Bool} {held : Bool} (hPr : ∀ b, b < w.heap.size → Pr b) : ∀ (n fuel : Nat) (t : TypeId) (cs : List Value) (d : DataW H) (ps : List MemPlace), plainT P n t = true →
    cs.length = szT P t → DataW.trod enc P w base spare held fuel t cs = some (d, ps) → ∃ ts : List T, RL w Pr β (ts.map .tr) cs ∧ WfT P n t ts := by
  intro n
  induction n with
  | zero => intro fuel t cs d ps hp; cases hp
  | succ n ih =>
    intro fuel t cs d ps hp hsz ht
    cases fuel with
    | zero => cases ht
    | succ fuel =>
      unfold plainT at hp
      unfold DataW.trod at ht
      unfold WfT
      have one : ∀ (v : Value), RL w Pr β (([T.sc v] : List T).map .tr) [v] := fun v => .cons (RV.mk_sc v) .nil
      split at ht
      · rename_i b hd
        rw [hd]
        exact ⟨[.sc (.bool b)], one _, b, rfl⟩
      · rename_i k k' m hd
        rw [hd]
        split at ht
        · rename_i hk
          obtain ⟨rfl, hw⟩ := hk
          exact ⟨[.sc (.int k' m)], one _, m, rfl, hw⟩
        · cases ht
      · rename_i hd; rw [hd] at hp; cases hp
      · rename_i s hd
        rw [hd]
        split at ht
        · rename_i hs
          exact ⟨[.sc (.string s)], one _, s, rfl, hs⟩
        · cases ht
      · rename_i hd; rw [hd] at hp; cases hp
      · rename_i hd; rw [hd] at hp; cases hp
      · rename_i e hd
        rw [hd]
        exact ⟨[.sc (.slice none 0 0)], one _, .inl rfl⟩
      · rename_i e a len cap hd
        rw [hd] at hp ⊢
        simp only [Bool.and_eq_true, decide_eq_true_eq] at hp
        obtain ⟨hpos, hpe⟩ := hp
        dsimp only at ht
        split at ht
        · rename_i hc
          obtain ⟨hba, hlc, hcm⟩ := hc
          rw [Option.bind_eq_some_iff] at ht
          obtain ⟨elems, hel, _⟩ := ht
          obtain ⟨hl1, hl2⟩ := mapM_get hel
          have hge : ∀ i, i < len → ∃ ts : List T, ∃ ci : List Value, w.cells? base (a.add (i * P.cellsOf e)) (P.cellsOf e) = some ci ∧ RL w Pr β (ts.map .tr) ci ∧ ts.length = szT P e ∧ ci.length = szT P e ∧ WfT P n e ts := fun i hi => by
            obtain ⟨y, _, hy⟩ := hl2 i i (by simp [hi])
            rw [Option.bind_eq_some_iff] at hy
            obtain ⟨ci, hci, hti⟩ := hy
            have hcl : ci.length = szT P e := by
              unfold World.cells? at hci
              split at hci
              · have := (mapM_get hci).1
                rw [this, List.length_range, cellsOf_szT]
              · cases hci
            obtain ⟨ts, h1, h2⟩ := ih fuel e ci y.1 y.2 hpe hcl hti
            exact ⟨ts, ci, hci, h1, by have := h1.1; simp at this; omega, hcl, h2⟩
          obtain ⟨es, hes1, hes2⟩ := skolem len hge
          refine ⟨[.sl (szT P e) es], .cons (.tr ?_) .nil, .inr ⟨es, rfl, by omega, fun x hx => ?_⟩⟩
          · rcases Nat.eq_zero_or_pos len with h0 | hlen
            · subst h0
              have : es = [] := List.eq_nil_of_length_eq_zero hes1
              subst this
              exact .nl _ _ _
            · have cellAt : ∀ j k ts, es[j]? = some ts → k < szT P e → ∃ u t, ts[k]? = some t ∧ w.cell? ((a.add (j * P.cellsOf e)).add k) = some u ∧ RT w Pr t u := fun j k ts hj hk => by
                obtain ⟨ci, hci, h1, h2, h3, _⟩ := hes2 j ts hj
                unfold World.cells? at hci
                split at hci
                · obtain ⟨y, hy1, hy2⟩ := (mapM_get hci).2 k k (by simp [cellsOf_szT, hk])
                  have htk : ts[k]? = some ts[k] := List.getElem?_eq_getElem (by omega)
                  refine ⟨y, ts[k], htk, hy2, ?_⟩
                  have := h1.2 k (.tr ts[k]) y (by simp [htk]) hy1
                  cases this with
                  | tr h => exact h
                · cases hci
              obtain ⟨b, o, spot⟩ := a
              obtain ⟨u0, t0, _, hu0, _⟩ := cellAt 0 0 es[0] (List.getElem?_eq_getElem (by omega)) hpos
              have hspot : spot = none := by
                simp [Addr.add, World.cell?] at hu0
                split at hu0
                · cases spot with
                  | none => rfl
                  | some x => simp at hu0
                · cases hu0
              subst hspot
              have hblk : b < w.heap.size := by
                simp [Addr.add, World.cell?] at hu0
                split at hu0
                · rename_i hb
                  exact (Array.getElem?_eq_some_iff.1 hb).1
                · cases hu0
              have hadd : ∀ j k, ((⟨b, o, none⟩ : Addr).add (j * P.cellsOf e)).add k = ⟨b, o + (j * szT P e + k), none⟩ := fun j k => by
                rw [add_none, add_none, cellsOf_szT, Nat.add_assoc]
              refine .sl _ es b o len cap (fun j k => (w.cell? ⟨b, o + (j * szT P e + k), none⟩).getD undef) hes1.symm hlc (hPr b hblk) (fun j ts hj => (hes2 j ts hj).choose_spec.2.2.1) (fun j ts k t hj hk => ?_) (fun j ts k t hj hk => ?_)
              · have hkl : k < szT P e := by
                  have := (hes2 j ts hj).choose_spec.2.2.1
                  have := (List.getElem?_eq_some_iff.1 hk).1
                  omega
                obtain ⟨u, t', ht', hu, _⟩ := cellAt j k ts hj hkl
                rw [hadd] at hu
                rw [hu]; rfl
              · have hkl : k < szT P e := by
                  have := (hes2 j ts hj).choose_spec.2.2.1
                  have := (List.getElem?_eq_some_iff.1 hk).1
                  omega
                obtain ⟨u, t', ht', hu, hr⟩ := cellAt j k ts hj hkl
                rw [hadd] at hu
                rw [hk] at ht'
                injection ht' with ht'
                subst ht'
                rw [hu]; exact hr
          · obtain ⟨j, hj⟩ := List.mem_iff_getElem?.1 hx
            obtain ⟨ci, _, _, h2, _, h4⟩ := hes2 j x hj
            exact ⟨h2, h4⟩
        · cases ht
      · rename_i cs x1 x2 fs hd
        rw [hd] at hp ⊢
        simp only [Bool.and_eq_true, beq_iff_eq, List.all_eq_true] at hp
        obtain ⟨hcont, hall⟩ := hp
        split at ht
        · rename_i hcl
          obtain ⟨xs, hxs, _⟩ := Option.map_eq_some_iff.1 ht
          obtain ⟨h1, h2⟩ := mapM_get hxs
          have hle : ∀ f ∈ fs.toList, f.offset + szT P f.type ≤ cs.length := fun f hf => by rw [hsz]; exact contig_field _ _ _ hcont f hf
          obtain ⟨ts, h3, h4, h5⟩ := fields_whole (q := fun t ts => WfT P n t ts) (P := P) (w := w) (Pr := Pr) (β := β) (cs := cs) fs.toList 0 (szT P t) hcont hsz fun f hf => by
            obtain ⟨i, hi⟩ := List.mem_iff_getElem?.1 hf
            obtain ⟨y, _, hy⟩ := h2 i f hi
            have hlen : ((cs.drop f.offset).take (szT P f.type)).length = szT P f.type := by
              have := hle f hf
              simp; omega
            rw [cellsOf_szT] at hy
            obtain ⟨ts, h6, h7⟩ := ih fuel f.type _ y.1 y.2 (hall f hf) hlen hy
            exact ⟨ts, by have := h6.1; simp only [List.length_map] at this; omega, h6, h7⟩
          refine ⟨ts, by simpa using h4, by omega, fun f hf => by simpa using (h5 f hf).2⟩
        · cases ht
      · rename_i cs x1 x2 m e hd
        rw [hd] at hp ⊢
        simp only [Bool.and_eq_true, beq_iff_eq] at hp
        obtain ⟨hcont, hpe⟩ := hp
        split at ht
        · rename_i hcl
          obtain ⟨xs, hxs, _⟩ := Option.map_eq_some_iff.1 ht
          obtain ⟨h1, h2⟩ := mapM_get hxs
          obtain ⟨ts, h3, h4, h5⟩ := elems_whole (q := fun ts => WfT P n e ts) (w := w) (Pr := Pr) (β := β) (sz := szT P e) (cs := cs) m (by omega) fun i hi => by
            obtain ⟨y, _, hy⟩ := h2 i i (by simp [hi])
            rw [cellsOf_szT] at hy
            have hlen : ((cs.drop (i * szT P e)).take (szT P e)).length = szT P e := by
              have : i * szT P e + szT P e ≤ m * szT P e := by rw [← Nat.succ_mul]; exact Nat.mul_le_mul_right _ hi
              simp; omega
            obtain ⟨ts, h6, h7⟩ := ih fuel e _ y.1 y.2 hpe hlen hy
            exact ⟨ts, by have := h6.1; simp only [List.length_map] at this; omega, h6, h7⟩
          refine ⟨ts, ?_, by omega, h5⟩
          rwa [List.take_of_length_le (by omega)] at h4
        · cases ht
      all_goals first
        | (rename_i hd; rw [hd] at hp; cases hp)
        | cases ht

end
end Go.Ab
