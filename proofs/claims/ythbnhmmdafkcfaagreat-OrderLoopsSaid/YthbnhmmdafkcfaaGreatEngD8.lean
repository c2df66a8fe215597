/- An evaluator of the program over states of which some values are told, and that what it says the program does. -/
import Derived.Test.YthbnhmmdafkcfaaGreatEngD7
set_option linter.unusedVariables false
set_option linter.unusedSimpArgs false
namespace Go.Ab

def Ex.to : Ex → Exit
  | .normal => .normal
  | .exit id => .exit id
  | .ret => .ret

section
variable {P : Program} {O : Orc} {w0 : World} {Pr0 : Nat → Prop} {β0 : Bt}

theorem regE_wp (hm : P.follows .mixedOrders = true) (hO : OSound P (callE O)) {id : Nat} {ops : Array Oper} {draw : Bool} {s s' : St} (he : regE P O ops draw s = some s') {a : Act} {w : World} {Q : Exit → Act → World → Prop}
    (hr : Rel P w0 Pr0 β0 s a w) (hq : ∀ a' w', Rel P w0 Pr0 β0 s' a' w' → Q .normal a' w') : (Code.region id ops draw).wp P Q a w := by
  unfold regE at he
  cases draw with
  | false =>
    simp only [Bool.false_eq_true, if_false] at he
    have := runE_wp hO ops.toList 0 s a w (by simp) hr he hq
    refine wp_region ?_
    rw [List.range_eq_range']
    simpa using this
  | true =>
    simp only [if_true] at he
    split at he
    · rename_i hok
      exact wp_region_any hm (drawE_wp hO hok he hr.drew hq)
    · exact wp_region_any hm (ndE_wp hO he hr.drew hq)

theorem least {p : Nat → Prop} (h : ∃ n, p n) : ∃ m, p m ∧ ∀ k, k < m → ¬ p k := by
  obtain ⟨n, hn⟩ := h
  induction n using Nat.strongRecOn with
  | _ n ih =>
    by_cases hx : ∃ k, k < n ∧ p k
    · obtain ⟨k, hk, hp⟩ := hx
      exact ih k hk hp
    · exact ⟨n, hn, fun k hk hp => hx ⟨k, hk, hp⟩⟩

open Classical in
theorem loop_wp {c : Code} {f : St → Option (Ex × St)} {ex : Ex} {s' : St} {Q : Exit → Act → World → Prop}
    (hf : ∀ s ex1 s1 a w Q, f s = some (ex1, s1) → Rel P w0 Pr0 β0 s a w → (∀ a' w', Rel P w0 Pr0 β0 s1 a' w' → Q ex1.to a' w') → c.wp P Q a w) (hq : ∀ a' w', Rel P w0 Pr0 β0 s' a' w' → Q ex.to a' w')
    {n : Nat} {s : St} {a : Act} {w : World} (he : iter n f s = some (ex, s')) (hr : Rel P w0 Pr0 β0 s a w) : (Code.loop c).wp P Q a w := by
  let I : Act → World → Prop := fun a w => ∃ n, ∃ s, iter n f s = some (ex, s') ∧ Rel P w0 Pr0 β0 s a w
  let μ : Act → World → Nat := fun a w => if h : I a w then (least h).choose else 0
  have hμ : ∀ a w (h : I a w), (∃ s, iter (μ a w) f s = some (ex, s') ∧ Rel P w0 Pr0 β0 s a w) ∧ ∀ k, k < μ a w → ¬ ∃ s, iter k f s = some (ex, s') ∧ Rel P w0 Pr0 β0 s a w := fun a w h => by
    have : μ a w = (least h).choose := dif_pos h
    rw [this]
    exact (least h).choose_spec
  refine wp_loop I μ ⟨n, s, he, hr⟩ fun a w hIaw => ?_
  obtain ⟨s1, h1, hr1⟩ := (hμ a w hIaw).1
  cases hk : μ a w with
  | zero => rw [hk] at h1; cases h1
  | succ k =>
    rw [hk] at h1
    unfold iter at h1
    cases hfs : f s1 with
    | none => rw [hfs] at h1; cases h1
    | some r =>
      obtain ⟨ex1, s2⟩ := r
      rw [hfs] at h1
      simp only [Option.bind_some] at h1
      refine hf s1 ex1 s2 a w _ hfs hr1 fun a' w' hr2 => ?_
      cases ex1 with
      | normal =>
        dsimp only at h1
        have hI' : I a' w' := ⟨k, s2, h1, hr2⟩
        refine ⟨hI', ?_⟩
        rcases Nat.lt_or_ge k (μ a' w') with hlt | hge
        · exact absurd ⟨s2, h1, hr2⟩ ((hμ a' w' hI').2 k hlt)
        · omega
      | exit id =>
        injection h1 with h1
        injection h1 with h2 h3
        subst h2 h3
        exact hq a' w' hr2
      | ret =>
        injection h1 with h1
        injection h1 with h2 h3
        subst h2 h3
        exact hq a' w' hr2

theorem evC_wp (hm : P.follows .mixedOrders = true) (hO : OSound P (callE O)) (n : Nat) : ∀ (c : Code) (s : St) (ex : Ex) (s' : St) (a : Act) (w : World) (Q : Exit → Act → World → Prop), evC P O (iter n) c s = some (ex, s') → Rel P w0 Pr0 β0 s a w →
    (∀ a' w', Rel P w0 Pr0 β0 s' a' w' → Q ex.to a' w') → c.wp P Q a w := by
  intro c
  induction c with
  | skip =>
    intro s ex s' a w Q he hr hq
    simp [evC] at he
    obtain ⟨rfl, rfl⟩ := he
    exact wp_skip (hq a w hr)
  | region id ops draw =>
    intro s ex s' a w Q he hr hq
    unfold evC at he
    obtain ⟨s1, h1, h2⟩ := Option.map_eq_some_iff.1 he
    injection h2 with h2 h3
    subst h2 h3
    exact regE_wp hm hO h1 hr hq
  | seq x y ihx ihy =>
    intro s ex s' a w Q he hr hq
    unfold evC at he
    cases hx : evC P O (iter n) x s with
    | none => rw [hx] at he; cases he
    | some r =>
      obtain ⟨ex1, s1⟩ := r
      rw [hx] at he
      simp only [Option.bind_some] at he
      refine wp_seq (ihx s ex1 s1 a w _ hx hr fun a' w' hr' => ?_)
      cases ex1 with
      | normal => exact ihy s1 ex s' a' w' Q he hr' hq
      | exit id =>
        injection he with he
        injection he with h2 h3
        subst h2 h3
        exact hq a' w' hr'
      | ret =>
        injection he with he
        injection he with h2 h3
        subst h2 h3
        exact hq a' w' hr'
  | cond c x y ihx ihy =>
    intro s ex s' a w Q he hr hq
    unfold evC at he
    cases hc : asB (s.ev c) with
    | none => rw [hc] at he; cases he
    | some t =>
      rw [hc] at he
      simp only [Option.bind_some] at he
      obtain ⟨Pr, β, hb, hh, hl, hd⟩ := hr
      have h1 := asB_inv hc (stands_of hl c)
      refine wp_cond h1 ?_
      cases t with
      | true => exact ihx s ex s' a w Q he ⟨Pr, β, hb, hh, hl, hd⟩ hq
      | false => exact ihy s ex s' a w Q he ⟨Pr, β, hb, hh, hl, hd⟩ hq
  | block id x ih =>
    intro s ex s' a w Q he hr hq
    unfold evC at he
    obtain ⟨r, h1, h2⟩ := Option.map_eq_some_iff.1 he
    obtain ⟨ex1, s1⟩ := r
    injection h2 with h2 h3
    subst h3
    refine wp_block (ih s ex1 s1 a w _ h1 hr fun a' w' hr' => ?_)
    have hq' := hq a' w' hr'
    rw [← h2] at hq'
    cases ex1 with
    | normal => simpa [Exit.inBlock, Ex.to] using hq'
    | exit id' =>
      by_cases hid : id' = id
      · subst hid
        simpa [Exit.inBlock, Ex.to] using hq'
      · simpa [Exit.inBlock, Ex.to, hid] using hq'
    | ret => simpa [Exit.inBlock, Ex.to] using hq'
  | loop x ih =>
    intro s ex s' a w Q he hr hq
    unfold evC at he
    exact loop_wp (f := evC P O (iter n) x) (fun s ex1 s1 a w Q h1 h2 h3 => ih s ex1 s1 a w Q h1 h2 h3) hq he hr
  | exit id =>
    intro s ex s' a w Q he hr hq
    simp [evC] at he
    obtain ⟨rfl, rfl⟩ := he
    exact wp_exit (hq a w hr)
  | ret =>
    intro s ex s' a w Q he hr hq
    simp [evC] at he
    obtain ⟨rfl, rfl⟩ := he
    exact wp_ret (hq a w hr)
  | _ => intro s ex s' a w Q he hr hq; simp [evC] at he

def resV (tmps : Array Value) : ResultVar → Sem Value
  | .tmp t => pure (tmps.getD t undef)
  | .cell x t => do loadVar t (← asAddr (tmps.getD x undef))

theorem results_eq (fn : Func) (tmps : Array Value) : results fn tmps = (do let vs ← fn.results.mapM (resV tmps); pure (if h : vs.size = 1 then vs[0] else .tuple vs)) := by
  unfold results
  congr 2

theorem res1_run {s : St} {a : Act} {w : World} {Pr : Nat → Prop} {β : Bt} (hh : Hp P w Pr β s.h) (hl : RL w Pr β s.tm a.tmps.toList) {r : ResultVar} {v : V} (he : res1 P s r = some v) :
    ∃ u, (resV a.tmps r).run P w = .ok u w ∧ RV w Pr β v u := by
  cases r with
  | tmp t =>
    simp only [res1] at he
    injection he with he
    subst he
    exact ⟨a.tmps.getD t undef, by simp only [resV]; rfl, stands_of hl (.tmp t)⟩
  | cell x t =>
    have hx := stands_of hl (.tmp x)
    simp only [St.ev, Act.eval] at hx
    simp only [res1] at he
    obtain ⟨u, h1, h2⟩ := loadE_sound hh hx he
    refine ⟨u, ?_, h2⟩
    have hp : ∃ ad, a.tmps.getD x undef = .pointer (some ad) := by
      unfold loadE at he
      cases hti : tyI P t with
      | none => rw [hti] at he; cases he
      | some ti =>
        rw [hti] at he
        simp only [Option.bind_some] at he
        generalize s.tm.getD x uv = y at he hx
        split at he
        · obtain ⟨b, sz, _, hu⟩ := hx.ptr_inv
          exact ⟨_, hu⟩
        · obtain ⟨b, o, us, hu, _⟩ := hx.ep_inv
          exact ⟨_, hu⟩
        · cases he
    obtain ⟨ad, had⟩ := hp
    rw [had] at h1
    simp only [resV, had]
    simpa [Instr.loadAt, Instr.sureAddr, asAddr] using h1

theorem resL_run {s : St} {a : Act} {w : World} {Pr : Nat → Prop} {β : Bt} (hh : Hp P w Pr β s.h) (hl : RL w Pr β s.tm a.tmps.toList) : ∀ (rs : List ResultVar) (vs : List V), resL P s rs = some vs →
    ∃ us : List Value, (rs.mapM (resV a.tmps) : Sem (List Value)).run P w = .ok us w ∧ RL w Pr β vs us := by
  intro rs
  induction rs with
  | nil =>
    intro vs he
    simp [resL] at he
    subst he
    exact ⟨[], by simp, .nil⟩
  | cons r rs ih =>
    intro vs he
    unfold resL at he
    cases h1 : res1 P s r with
    | none => rw [h1] at he; cases he
    | some v =>
      rw [h1] at he
      simp only [Option.bind_some] at he
      obtain ⟨vs', h2, h3⟩ := Option.map_eq_some_iff.1 he
      subst h3
      obtain ⟨u, h4, h5⟩ := res1_run hh hl h1
      obtain ⟨us, h6, h7⟩ := ih vs' h2
      refine ⟨u :: us, ?_, .cons h5 h7⟩
      rw [List.mapM_cons]
      simp [h4, h6]

theorem resE_run {s : St} {a : Act} {w : World} {Pr : Nat → Prop} {β : Bt} (hh : Hp P w Pr β s.h) (hl : RL w Pr β s.tm a.tmps.toList) {fn : Func} {v : V} (he : resE P s fn.results.toList = some v) :
    ∃ u, (results fn a.tmps).run P w = .ok u w ∧ RV w Pr β v u := by
  unfold resE at he
  obtain ⟨vs, h1, h2⟩ := Option.map_eq_some_iff.1 he
  obtain ⟨us, h3, h4⟩ := resL_run hh hl _ _ h1
  refine ⟨if h : us.toArray.size = 1 then us.toArray[0] else .tuple us.toArray, ?_, ?_⟩
  · rw [results_eq, Array.mapM_eq_mapM_toList]
    simp [h3, Result.andThen]
  · clear he
    match vs, h2, h4 with
    | [v1], h2, h4 =>
      obtain ⟨u, us', rfl, hu, hn⟩ := h4.cons_inv
      rw [hn.nil_inv]
      rw [← h2]
      simpa using hu
    | [], h2, h4 =>
      rw [h4.nil_inv, ← h2]
      exact RV.mk_tup .nil
    | x :: y :: l, h2, h4 =>
      have : us.toArray.size ≠ 1 := fun h => by
        have hl1 := h4.1
        simp at h hl1
        omega
      rw [dif_neg this, ← h2]
      exact RV.mk_tup h4

theorem evF_run (hm : P.follows .mixedOrders = true) (hO : OSound P (callE O)) {n : Nat} {K : FuncId} {args : List V} {h : H} {v : V} {h' : H} (he : evF P O (iter n) K args h = some (v, h')) : Callable P K ∧ Run P K args h v h' := by
  unfold evF at he
  cases hf : P.funcs[K]? with
  | none => rw [hf] at he; cases he
  | some fn =>
    rw [hf] at he
    simp only [Option.bind_some] at he
    cases hb : fn.body with
    | none => rw [hb] at he; cases he
    | some c =>
      rw [hb] at he
      simp only [Option.bind_some] at he
      split at he
      · cases he
      · rename_i hname
        refine ⟨⟨fn, hf, by simpa using hname, by rw [hb]; rfl⟩, fun w Pr β us hh hl => ?_⟩
        unfold evB at he
        cases hc : evC P O (iter n) c ⟨args ++ List.replicate (fn.ntmps - args.length) uv, h⟩ with
        | none => rw [hc] at he; cases he
        | some r =>
          obtain ⟨ex, s'⟩ := r
          rw [hc] at he
          simp only [Option.bind_some] at he
          refine calls_of_wp hf hb ?_
          have hrel : Rel P w Pr β ⟨args ++ List.replicate (fn.ntmps - args.length) uv, h⟩ { tmps := us.toArray ++ Array.replicate (fn.ntmps - us.toArray.size) undef, defers := [] } w := by
            refine ⟨Pr, β, .refl .., hh, ?_, rfl⟩
            have : (us.toArray ++ Array.replicate (fn.ntmps - us.toArray.size) undef).toList = us ++ List.replicate (fn.ntmps - args.length) undef := by
              simp [hl.1]
            rw [this]
            refine hl.append ⟨by simp, fun k v u h1 h2 => ?_⟩
            have e1 := List.mem_of_getElem? h1
            have e2 := List.mem_of_getElem? h2
            rw [List.eq_of_mem_replicate e1, List.eq_of_mem_replicate e2]
            exact RV.mk_sc _
          have hfin : ∀ (he : (resE P s' fn.results.toList).bind (fun v => gcE h.length v s'.h) = some (v, h')) (a' : Act) (w' : World), Rel P w Pr β s' a' w' → a'.defers = [] ∧ ∃ u, (results fn a'.tmps).run P w' = .ok u w' ∧
              ∃ r Pr' β', Ending.returned u = .returned r ∧ Ext w Pr β w' Pr' β' ∧ Hp P w' Pr' β' h' ∧ RV w' Pr' β' v r := fun he a' w' hr => by
            obtain ⟨Pr1, β1, hb1, hh1, hl1, hd1⟩ := hr
            cases hre : resE P s' fn.results.toList with
            | none => rw [hre] at he; cases he
            | some v1 =>
              rw [hre] at he
              simp only [Option.bind_some] at he
              obtain ⟨u, h1, h2⟩ := resE_run hh1 hl1 hre
              obtain ⟨β2, h3, h4, h5⟩ := gcE_sound hb1 (Nat.le_of_eq hh.len) hh1 h2 he
              exact ⟨hd1, u, h1, u, Pr1, β2, rfl, h3, h4, h5⟩
          cases ex with
          | exit id => cases he
          | normal => exact evC_wp hm hO n c _ _ _ _ _ _ hc hrel fun a' w' hr => hfin he a' w' hr
          | ret => exact evC_wp hm hO n c _ _ _ _ _ _ hc hrel fun a' w' hr => hfin he a' w' hr

theorem evN_sound (hm : P.follows .mixedOrders = true) {X : Orc} (hX : OSound P X) : ∀ n, OSound P (evN P X n) := by
  intro n
  induction n with
  | zero => exact hX
  | succ n ih =>
    intro K args h v h' he
    unfold evN at he
    split at he
    · rename_i r hr
      injection he with he
      subst he
      exact hX K args h v h' hr
    · exact evF_run hm (callE_sound ih) he

theorem E_sound (hm : P.follows .mixedOrders = true) {X : Orc} (hX : OSound P X) : OSound P (E P X) := by
  intro K args h v h' he
  obtain ⟨n, hn⟩ := lim_spec he
  exact evN_sound hm hX n K args h v h' (hn n (Nat.le_refl _))

end
end Go.Ab
