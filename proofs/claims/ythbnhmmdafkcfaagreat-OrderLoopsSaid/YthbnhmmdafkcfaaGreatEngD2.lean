/- An evaluator of the program over states of which some values are told, and that what it says the program does. -/
import Derived.Test.YthbnhmmdafkcfaaGreatEngD1
set_option linter.unusedVariables false
set_option linter.unusedSimpArgs false
namespace Go.Ab

theorem renL_get (f : Nat → Nat) : ∀ (l : List V) (k : Nat), (renL f l)[k]? = (l[k]?).map (ren f)
  | [], k => by simp [renL]
  | v :: vs, 0 => by simp [renL]
  | v :: vs, k + 1 => by simp [renL, renL_get f vs k]

theorem renL_length (f : Nat → Nat) : ∀ (l : List V), (renL f l).length = l.length
  | [] => rfl
  | v :: vs => by simp [renL, renL_length f vs]

theorem refsL_mem : ∀ {l : List V} {k : Nat} {v : V} {i : Nat}, l[k]? = some v → i ∈ refs v → i ∈ refsL l
  | [], k, v, i, h, _ => by simp at h
  | x :: xs, 0, v, i, h, hi => by simp at h; subst h; simp [refsL, hi]
  | x :: xs, k + 1, v, i, h, hi => by simp at h; simp [refsL, refsL_mem h hi]

section
variable {P : Program} {w : World} {Pr : Nat → Prop} {β β' : Bt}

theorem RV.ren (f : Nat → Nat) {v : V} {u : Value} (hv : RV w Pr β v u) : (∀ i ∈ refs v, ∀ x, β[i]? = some x → β'[f i]? = some x) → RV w Pr β' (Ab.ren f v) u := by
  induction hv with
  | tr h => intro _; rw [Ab.ren]; exact .tr h
  | ptr h => intro hf; rw [Ab.ren]; exact .ptr (hf _ (by simp [refs]) _ h)
  | ep g h1 h2 h3 => intro _; rw [Ab.ren]; exact .ep g h1 h2 h3
  | row h hn hc ha hs => intro hf; rw [Ab.ren]; exact .row (hf _ (by simp [refs]) _ h) hn hc ha hs
  | fn va vb la lb ha hb iha ihb =>
    intro hf
    rw [Ab.ren]
    refine .fn va vb (by rw [renL_length]; exact la) (by rw [renL_length]; exact lb) (fun k v u hk hu => ?_) (fun k v u hk hu => ?_)
    · rw [renL_get] at hk
      obtain ⟨v0, h0, rfl⟩ := Option.map_eq_some_iff.1 hk
      exact iha k v0 u h0 hu fun i hi => hf i (by rw [refs]; exact List.mem_append.2 (.inl (refsL_mem h0 hi)))
    · rw [renL_get] at hk
      obtain ⟨v0, h0, rfl⟩ := Option.map_eq_some_iff.1 hk
      exact ihb k v0 u h0 hu fun i hi => hf i (by rw [refs]; exact List.mem_append.2 (.inr (refsL_mem h0 hi)))
  | mth u h ih => intro hf; rw [Ab.ren]; exact .mth u (ih fun i hi => hf i (by rw [refs]; exact hi))
  | mp h => intro hf; rw [Ab.ren]; exact .mp (hf _ (by simp [refs]) _ h)
  | it h => intro hf; rw [Ab.ren]; exact .it (hf _ (by simp [refs]) _ h)
  | ifc h ih => intro hf; rw [Ab.ren]; exact .ifc (ih fun i hi => hf i (by rw [refs]; exact hi))
  | agg us l h ih =>
    intro hf
    rw [Ab.ren]
    refine .agg us (by rw [renL_length]; exact l) fun k v u hk hu => ?_
    rw [renL_get] at hk
    obtain ⟨v0, h0, rfl⟩ := Option.map_eq_some_iff.1 hk
    exact ih k v0 u h0 hu fun i hi => hf i (by rw [refs]; exact refsL_mem h0 hi)
  | tup us l h ih =>
    intro hf
    rw [Ab.ren]
    refine .tup us (by rw [renL_length]; exact l) fun k v u hk hu => ?_
    rw [renL_get] at hk
    obtain ⟨v0, h0, rfl⟩ := Option.map_eq_some_iff.1 hk
    exact ih k v0 u h0 hu fun i hi => hf i (by rw [refs]; exact refsL_mem h0 hi)
  | dead => intro _; rw [Ab.ren]; exact .dead

theorem RL.ren (f : Nat → Nat) {vs : List V} {us : List Value} (hl : RL w Pr β vs us) (hf : ∀ i ∈ refsL vs, ∀ x, β[i]? = some x → β'[f i]? = some x) : RL w Pr β' (renL f vs) us := by
  refine ⟨by rw [renL_length]; exact hl.1, fun k v u hk hu => ?_⟩
  rw [renL_get] at hk
  obtain ⟨v0, h0, rfl⟩ := Option.map_eq_some_iff.1 hk
  exact (hl.2 k v0 u h0 hu).ren f fun i hi => hf i (refsL_mem h0 hi)

theorem RB.ren (f : Nat → Nat) {b sz : Nat} {x : B} (hx : RB P w Pr β b sz x) (hf : ∀ i ∈ refsB x, ∀ y, β[i]? = some y → β'[f i]? = some y) : RB P w Pr β' b sz (renB f x) := by
  cases x with
  | cells t es ex =>
    obtain ⟨c, h1, h2, h3, h4, h5, h6⟩ := hx
    refine ⟨c, h1, h2, fun j e he => ?_, by simpa using h4, fun hex => by simpa using h5 hex, fun j e k v he hk => ?_⟩
    · rw [List.getElem?_map] at he
      obtain ⟨e0, h0, rfl⟩ := Option.map_eq_some_iff.1 he
      rw [renL_length]
      exact h3 j e0 h0
    · rw [List.getElem?_map] at he
      obtain ⟨e0, h0, rfl⟩ := Option.map_eq_some_iff.1 he
      rw [renL_get] at hk
      obtain ⟨v0, hv0, rfl⟩ := Option.map_eq_some_iff.1 hk
      obtain ⟨u, hu, hr⟩ := h6 j e0 k v0 h0 hv0
      exact ⟨u, hu, hr.ren f fun i hi => hf i (List.mem_flatMap.2 ⟨e0, List.mem_of_getElem? h0, refsL_mem hv0 hi⟩)⟩
  | map es clock =>
    obtain ⟨L, l, h1, h2, h3, h4, h5, h6⟩ := hx
    refine ⟨L, l, h1, h2, by simpa using h3, h4, h5, fun k e hk => ?_⟩
    rw [List.getElem?_map] at hk
    obtain ⟨e0, h0, rfl⟩ := Option.map_eq_some_iff.1 hk
    obtain ⟨u, bo, hu, hq, hr⟩ := h6 k e0 h0
    exact ⟨u, bo, hu, hq, hr.ren f fun i hi => hf i (List.mem_flatMap.2 ⟨e0, List.mem_of_getElem? h0, hi⟩)⟩
  | str s p => exact hx
  | gone => trivial

theorem renB_gone (f : Nat → Nat) {x : B} : renB f x = .gone ↔ x = .gone := by cases x <;> simp [renB]

theorem reach_nodup (h : H) : ∀ (n : Nat) (acc todo : List Nat), acc.Nodup → (reach h n acc todo).Nodup := by
  intro n
  induction n with
  | zero => intro acc todo hd; simpa [reach] using hd
  | succ n ih =>
    intro acc todo hd
    cases todo with
    | nil => simpa [reach] using hd
    | cons i rest =>
      rw [reach]
      split
      · exact ih _ _ hd
      · rename_i hi
        exact ih _ _ (List.nodup_append.2 ⟨hd, by simp, fun a ha b hb => by simp at hb; subst hb; exact fun e => hi (e ▸ ha)⟩)

theorem putAll_length : ∀ (ids : List Nat) (bs : List B) (h : H), (putAll h ids bs).length = h.length
  | [], bs, h => by cases bs <;> rfl
  | _ :: _, [], h => rfl
  | i :: ids, b :: bs, h => by rw [putAll, putAll_length ids bs]; simp

theorem putAll_other : ∀ (ids : List Nat) (bs : List B) (h : H) (i : Nat), i ∉ ids → (putAll h ids bs)[i]? = h[i]?
  | [], bs, h, i, _ => by cases bs <;> rfl
  | _ :: _, [], h, i, _ => rfl
  | j :: ids, b :: bs, h, i, hi => by
    simp at hi
    rw [putAll, putAll_other ids bs _ i hi.2, List.getElem?_set_ne (Ne.symm hi.1)]

theorem putAll_at : ∀ (ids : List Nat) (bs : List B) (h : H) (k i : Nat) (b : B), ids.Nodup → ids[k]? = some i → bs[k]? = some b → i < h.length → (putAll h ids bs)[i]? = some b
  | [], bs, h, k, i, b, _, h1, _, _ => by simp at h1
  | _ :: _, [], h, k, i, b, _, _, h2, _ => by simp at h2
  | j :: ids, x :: bs, h, 0, i, b, hd, h1, h2, hi => by
    simp at h1 h2
    subst h1 h2
    rw [putAll, putAll_other ids bs _ _ (List.nodup_cons.1 hd).1]
    simp [hi]
  | j :: ids, x :: bs, h, k + 1, i, b, hd, h1, h2, hi => by
    simp at h1 h2
    rw [putAll]
    exact putAll_at ids bs _ k i b (List.nodup_cons.1 hd).2 h1 h2 (by simpa using hi)

theorem place_at {ids : List Nat} {i : Nat} (hi : i ∈ ids) : ids[place ids i]? = some i := by
  have hl : ids.idxOf i < ids.length := List.idxOf_lt_length_iff.2 hi
  unfold place
  rw [List.getElem?_eq_getElem hl]
  simp

theorem map_getD_some {α β : Type} {l : List α} {f : α → β} {k : Nat} {y : β} (h : (l.map f)[k]? = some y) : ∃ x, l[k]? = some x ∧ f x = y := by
  rw [List.getElem?_map] at h
  exact Option.map_eq_some_iff.1 h

/-- The table of what a callee sees. -/
def subT (β : Bt) (ids : List Nat) : Bt := ids.map fun i => (β[i]?).getD (0, 0)

theorem subT_at {ids : List Nat} {i k : Nat} {x : Nat × Nat} (hk : ids[k]? = some i) (hx : β[i]? = some x) : (subT β ids)[k]? = some x := by simp [subT, hk, hx]

theorem sub_at {h : H} {ids : List Nat} {i k : Nat} {x : B} (hk : ids[k]? = some i) (hx : h[i]? = some x) : (sub h ids)[k]? = some (renB (place ids) x) := by simp [sub, hk, hx]

theorem Hp.sub {h : H} (hh : Hp P w Pr β h) {ids : List Nat} (hd : ids.Nodup) (hl : ∀ i ∈ ids, i < h.length) (hc : ∀ i ∈ ids, ∀ x, h[i]? = some x → ∀ j ∈ refsB x, j ∈ ids) : Hp P w Pr (subT β ids) (Ab.sub h ids) := by
  have hat : ∀ k i, ids[k]? = some i → ∃ x b sz, h[i]? = some x ∧ β[i]? = some (b, sz) := fun k i hk => by
    have hi := hl i (List.mem_of_getElem? hk)
    obtain ⟨b, sz, hb⟩ := hh.at (List.getElem?_eq_getElem hi)
    exact ⟨_, b, sz, List.getElem?_eq_getElem hi, hb⟩
  have inv : ∀ k b sz, (subT β ids)[k]? = some (b, sz) → ∃ i, ids[k]? = some i ∧ β[i]? = some (b, sz) := fun k b sz hk => by
    obtain ⟨i, hi, he⟩ := map_getD_some hk
    obtain ⟨x, b', sz', _, hb⟩ := hat k i hi
    rw [hb] at he
    simp at he
    exact ⟨i, hi, by rw [hb, he.1, he.2]⟩
  have invh : ∀ k x, (Ab.sub h ids)[k]? = some x → ∃ i y, ids[k]? = some i ∧ h[i]? = some y ∧ x = renB (place ids) y := fun k x hk => by
    obtain ⟨i, hi, he⟩ := map_getD_some hk
    obtain ⟨y, _, _, hy, _⟩ := hat k i hi
    rw [hy] at he
    exact ⟨i, y, hi, hy, he.symm⟩
  exact {
    len := by simp [subT, Ab.sub]
    lt := fun k b sz hk => by obtain ⟨i, _, hb⟩ := inv k b sz hk; exact hh.lt i b sz hb
    blk := fun k x b sz hx hk => by
      obtain ⟨i, hi, hb⟩ := inv k b sz hk
      obtain ⟨i', y, hi', hy, rfl⟩ := invh k x hx
      rw [hi] at hi'
      injection hi' with hi'
      subst hi'
      exact (hh.blk i y b sz hy hb).ren _ fun j hj z hz => subT_at (place_at (hc i (List.mem_of_getElem? hi) y hy j hj)) hz
    inj := fun k k' b sz sz' h1 h2 h3 h4 => by
      obtain ⟨i, hi, hb⟩ := inv k b sz h3
      obtain ⟨i', hi', hb'⟩ := inv k' b sz' h4
      obtain ⟨x, hx, hn⟩ := h1
      obtain ⟨x', hx', hn'⟩ := h2
      obtain ⟨j, y, hj, hy, rfl⟩ := invh k x hx
      obtain ⟨j', y', hj', hy', rfl⟩ := invh k' x' hx'
      rw [hi] at hj; injection hj with hj; subst hj
      rw [hi'] at hj'; injection hj' with hj'; subst hj'
      have := hh.inj i i' b sz sz' ⟨y, hy, fun e => hn ((renB_gone _).2 e)⟩ ⟨y', hy', fun e => hn' ((renB_gone _).2 e)⟩ hb hb'
      subst this
      exact (List.getElem?_inj (List.getElem?_eq_some_iff.1 hi).1 hd).1 (hi.trans hi'.symm)
    prot := fun k b sz hk => by obtain ⟨i, _, hb⟩ := inv k b sz hk; exact hh.prot i b sz hb
    plt := hh.plt }


theorem contains_mem {ids l : List Nat} (h : l.all (ids.contains ·) = true) : ∀ i ∈ l, i ∈ ids := fun i hi => by
  have := List.all_eq_true.1 h i hi
  simpa using this

theorem refsL_inv : ∀ {l : List V} {i : Nat}, i ∈ refsL l → ∃ v ∈ l, i ∈ refs v
  | [], i, h => by simp [refsL] at h
  | v :: vs, i, h => by
    rw [refsL] at h
    rcases List.mem_append.1 h with h | h
    · exact ⟨v, by simp, h⟩
    · obtain ⟨x, hx, hi⟩ := refsL_inv h
      exact ⟨x, by simp [hx], hi⟩

theorem callE_sound {O : Orc} (hO : OSound P O) : OSound P (callE O) := by
  intro K args h v h' he
  unfold callE at he
  dsimp only at he
  generalize hids : reach h 400 [] (refsL args) = ids at he
  have hnd : ids.Nodup := by rw [← hids]; exact reach_nodup _ _ _ _ (by simp)
  split at he
  · rename_i hc
    simp only [Bool.and_eq_true] at hc
    obtain ⟨hc1, hc2⟩ := hc
    have hargs : ∀ i ∈ refsL args, i ∈ ids := fun i hi => by
      obtain ⟨x, hx, hxi⟩ := refsL_inv hi
      exact contains_mem (List.all_eq_true.1 hc1 x hx) i hxi
    have hthere : ∀ i ∈ ids, ∃ x, h[i]? = some x ∧ x ≠ .gone ∧ ∀ j ∈ refsB x, j ∈ ids := fun i hi => by
      have := List.all_eq_true.1 hc2 i hi
      simp only [Bool.and_eq_true] at this
      cases hx : h[i]? with
      | none => rw [hx] at this; simp [B.there] at this
      | some x =>
        rw [hx] at this
        simp at this
        exact ⟨x, rfl, fun e => by subst e; simp [B.there] at this, contains_mem (by simpa [inB] using this.1)⟩
    have hlt : ∀ i ∈ ids, i < h.length := fun i hi => by
      obtain ⟨x, hx, _⟩ := hthere i hi
      exact (List.getElem?_eq_some_iff.1 hx).1
    cases hr : O K (renL (place ids) args) (Ab.sub h ids) with
    | none => simp [hr] at he
    | some r =>
      obtain ⟨v0, h0⟩ := r
      simp only [hr, Option.bind_some] at he
      split at he
      · rename_i hn
        injection he with he
        injection he with e1 e2
        obtain ⟨hcall, hrun⟩ := hO K _ _ v0 h0 hr
        refine ⟨hcall, fun w Pr β us hh hl => ?_⟩
        have hsub := hh.sub hnd hlt (fun i hi x hx => by
          obtain ⟨y, hy, _, hin⟩ := hthere i hi
          rw [hx] at hy; injection hy with hy; subst hy
          exact hin)
        have hargl : RL w Pr (subT β ids) (renL (place ids) args) us := hl.ren _ fun i hi x hx => subT_at (place_at (hargs i hi)) hx
        refine Calls.mono (hrun w Pr (subT β ids) us hsub hargl) fun e w' hres => ?_
        obtain ⟨rv, Pr1, β1, rfl, hext, hh1, hv1⟩ := hres
        have hl1 : β1.length = h0.length := hh1.len
        have hsl : (subT β ids).length = ids.length := by simp [subT]
        have hbe : ∀ k i x, ids[k]? = some i → β[i]? = some x → β1[k]? = some x := fun k i x hk hx => hext.be k x (subT_at hk hx)
        have hbe' : ∀ k x, k < ids.length → β1[k]? = some x → ∃ i, ids[k]? = some i ∧ β[i]? = some x := fun k x hk hx => by
          have hi := List.getElem?_eq_getElem hk
          obtain ⟨b, sz, hb⟩ := hh.at (List.getElem?_eq_getElem (hlt _ (List.getElem_mem hk)))
          have := hbe k _ _ hi hb
          rw [this] at hx
          injection hx with hx
          subst hx
          exact ⟨_, hi, hb⟩
        let β' : Bt := β ++ β1.drop ids.length
        have hf1 : ∀ k x, β1[k]? = some x → β'[outer h ids k]? = some x := fun k x hx => by
          unfold outer
          cases hk : ids[k]? with
          | some i =>
            obtain ⟨i', hi', hb⟩ := hbe' k x (List.getElem?_eq_some_iff.1 hk).1 hx
            rw [hk] at hi'; injection hi' with hi'; subst hi'
            show (β ++ _)[i]? = _
            rw [List.getElem?_append_left (List.getElem?_eq_some_iff.1 hb).1]
            exact hb
          | none =>
            have hk' : ids.length ≤ k := List.getElem?_eq_none_iff.1 hk
            show (β ++ _)[h.length + (k - ids.length)]? = _
            rw [← hh.len, List.getElem?_append_right (by omega), List.getElem?_drop]
            rw [show ids.length + (β.length + (k - ids.length) - β.length) = k by omega]
            exact hx
        -- what an index of the heap behind the call is
        have cases1 : ∀ i x, h'[i]? = some x → (∃ k y, outer h ids k = i ∧ h0[k]? = some y ∧ x = renB (outer h ids) y) ∨ (i ∉ ids ∧ i < h.length ∧ h[i]? = some x) := fun i x hx => by
          rw [← e2] at hx
          rw [List.getElem?_append, putAll_length] at hx
          split at hx
          · rename_i hi
            by_cases hmem : i ∈ ids
            · left
              have hk := place_at hmem
              have hklt := (List.getElem?_eq_some_iff.1 hk).1
              have hbs : ((h0.take ids.length).map (renB (outer h ids)))[place ids i]? = some (renB (outer h ids) h0[place ids i]) := by
                rw [List.getElem?_map, List.getElem?_take_of_lt hklt, List.getElem?_eq_getElem (by omega)]
                rfl
              rw [putAll_at _ _ _ _ _ _ hnd hk hbs hi] at hx
              injection hx with hx
              refine ⟨place ids i, h0[place ids i], by simp [outer, hk], List.getElem?_eq_getElem (by omega), hx.symm⟩
            · right
              rw [putAll_other _ _ _ _ hmem] at hx
              exact ⟨hmem, hi, hx⟩
          · rename_i hi
            left
            obtain ⟨y, hy, hyx⟩ := map_getD_some hx
            rw [List.getElem?_drop] at hy
            refine ⟨ids.length + (i - h.length), y, ?_, hy, hyx.symm⟩
            unfold outer
            rw [List.getElem?_eq_none (by omega)]
            show h.length + _ = i
            omega
        have hlen' : h'.length = β'.length := by
          rw [← e2]
          show _ = (β ++ _).length
          simp [putAll_length, hh.len, hl1]
        have hβ : ∀ i b sz, β'[i]? = some (b, sz) → (∃ k, outer h ids k = i ∧ β1[k]? = some (b, sz)) ∨ (i ∉ ids ∧ i < h.length ∧ β[i]? = some (b, sz)) := fun i b sz hb => by
          have hb0 : (β ++ β1.drop ids.length)[i]? = some (b, sz) := hb
          rw [List.getElem?_append] at hb0
          split at hb0
          · rename_i hi
            by_cases hmem : i ∈ ids
            · left
              have hk := place_at hmem
              exact ⟨place ids i, by simp [outer, hk], hbe _ _ _ hk hb0⟩
            · exact .inr ⟨hmem, by rw [← hh.len]; exact hi, hb0⟩
          · rename_i hi
            left
            rw [List.getElem?_drop] at hb0
            refine ⟨ids.length + (i - β.length), ?_, hb0⟩
            unfold outer
            rw [List.getElem?_eq_none (by omega), ← hh.len]
            show β.length + _ = i
            omega
        have hinjo : ∀ k k', outer h ids k = outer h ids k' → k = k' := fun k k' hkk => by
          unfold outer at hkk
          cases h1 : ids[k]? with
          | some i =>
            cases h2 : ids[k']? with
            | some i' =>
              rw [h1, h2] at hkk
              dsimp only at hkk
              subst hkk
              exact (List.getElem?_inj (List.getElem?_eq_some_iff.1 h1).1 hnd).1 (h1.trans h2.symm)
            | none =>
              rw [h1, h2] at hkk
              dsimp only at hkk
              have := hlt i (List.mem_of_getElem? h1)
              omega
          | none =>
            have h1' := List.getElem?_eq_none_iff.1 h1
            cases h2 : ids[k']? with
            | some i' =>
              rw [h1, h2] at hkk
              dsimp only at hkk
              have := hlt i' (List.mem_of_getElem? h2)
              omega
            | none =>
              have h2' := List.getElem?_eq_none_iff.1 h2
              rw [h1, h2] at hkk
              dsimp only at hkk
              omega
        have houtmem : ∀ k i, outer h ids k = i → i < h.length → i ∈ ids := fun k i hk hi => by
          unfold outer at hk
          cases h1 : ids[k]? with
          | some j => rw [h1] at hk; dsimp only at hk; subst hk; exact List.mem_of_getElem? h1
          | none => rw [h1] at hk; dsimp only at hk; omega
        -- a live block outside of what the callee sees lies apart
        have apart : ∀ i x b sz, h[i]? = some x → x ≠ .gone → i ∉ ids → β[i]? = some (b, sz) → ∀ k s, (subT β ids)[k]? ≠ some (b, s) := fun i x b sz hx hn hni hb k s hk => by
          obtain ⟨j, hj, hje⟩ := map_getD_some hk
          have hjm := List.mem_of_getElem? hj
          obtain ⟨y, hy, hyn, _⟩ := hthere j hjm
          obtain ⟨b2, s2, hb2⟩ := hh.at hy
          rw [hb2] at hje
          simp at hje
          have := hh.inj i j b sz s2 ⟨x, hx, hn⟩ ⟨y, hy, hyn⟩ hb (by rw [hb2, hje.1])
          exact hni (this ▸ hjm)
        have ext : Ext w Pr β w' Pr1 β' := {
          size := hext.size
          os := hext.os
          tape := hext.tape
          out := hext.out
          pr := hext.pr
          new := hext.new
          be := fun i x hx => by
            show (β ++ _)[i]? = _
            rw [List.getElem?_append_left (List.getElem?_eq_some_iff.1 hx).1]
            exact hx
          bn := fun i b sz hb => by
            rcases hβ i b sz hb with ⟨k, _, hk⟩ | ⟨_, _, hk⟩
            · rcases hext.bn k b sz hk with ⟨i', s', h1⟩ | h1
              · obtain ⟨j, hj, hje⟩ := map_getD_some h1
                obtain ⟨b2, s2, hb2⟩ := hh.at (List.getElem?_eq_getElem (hlt j (List.mem_of_getElem? hj)))
                rw [hb2] at hje
                simp at hje
                exact .inl ⟨j, s2, by rw [hb2, hje.1]⟩
              · exact .inr h1
            · exact .inl ⟨i, sz, hk⟩
          sz := hext.sz
          keep := fun b hb hn => hext.keep b hb fun k s hk => by
            obtain ⟨j, hj, hje⟩ := map_getD_some hk
            obtain ⟨b2, s2, hb2⟩ := hh.at (List.getElem?_eq_getElem (hlt j (List.mem_of_getElem? hj)))
            rw [hb2] at hje
            simp at hje
            exact hn j s2 (by rw [hb2, hje.1]) }
        refine ⟨rv, Pr1, β', rfl, ext, ?_, ?_⟩
        · exact {
            len := hlen'.symm
            lt := fun i b sz hb => by
              rcases hβ i b sz hb with ⟨k, _, hk⟩ | ⟨_, _, hk⟩
              · exact hh1.lt k b sz hk
              · exact Nat.lt_of_lt_of_le (hh.lt i b sz hk) hext.size
            blk := fun i x b sz hx hb => by
              rcases cases1 i x hx with ⟨k, y, hki, hy, rfl⟩ | ⟨hni, hi, hxi⟩
              · obtain ⟨b1, s1, hb1⟩ := hh1.at hy
                have := hf1 k _ hb1
                rw [hki, hb] at this
                injection this with this
                injection this with t1 t2
                subst t1 t2
                exact (hh1.blk k y b sz hy hb1).ren _ fun j _ z hz => hf1 j z hz
              · rcases hβ i b sz hb with ⟨k, hk, _⟩ | ⟨_, _, hk⟩
                · exact absurd (houtmem k i hk hi) hni
                · have hbl := hh.blk i x b sz hxi hk
                  by_cases hg : x = .gone
                  · subst hg; trivial
                  · exact hbl.of (fun v u hv => ext.rv hh hv) (hext.keep b (hh.lt i b sz hk) (apart i x b sz hxi hg hni hk))
            inj := fun i i' b sz sz' hl1 hl2 hb1 hb2 => by
              obtain ⟨x, hx, hn⟩ := hl1
              obtain ⟨x', hx', hn'⟩ := hl2
              have key : ∀ i x b sz, h'[i]? = some x → x ≠ .gone → β'[i]? = some (b, sz) → (∃ k, outer h ids k = i ∧ β1[k]? = some (b, sz) ∧ live h0 k) ∨ (i ∉ ids ∧ β[i]? = some (b, sz) ∧ h[i]? = some x ∧ ∀ k s, β1[k]? ≠ some (b, s)) := fun i x b sz hx hn hb => by
                rcases cases1 i x hx with ⟨k, y, hki, hy, rfl⟩ | ⟨hni, hi, hxi⟩
                · obtain ⟨b1, s1, hb1⟩ := hh1.at hy
                  have := hf1 k _ hb1
                  rw [hki, hb] at this
                  injection this with this
                  injection this with t1 t2
                  subst t1 t2
                  exact .inl ⟨k, hki, hb1, y, hy, fun e => hn ((renB_gone _).2 e)⟩
                · rcases hβ i b sz hb with ⟨k, hk, _⟩ | ⟨_, _, hk⟩
                  · exact absurd (houtmem k i hk hi) hni
                  · refine .inr ⟨hni, hk, hxi, fun k s hks => ?_⟩
                    rcases hext.bn k b s hks with ⟨i', s', h1⟩ | h1
                    · exact apart i x b sz hxi hn hni hk i' s' h1
                    · have := hh.lt i b sz hk
                      omega
              rcases key i x b sz hx hn hb1 with ⟨k, hk, hk1, hkl⟩ | ⟨hni, hk, hxi, hno⟩ <;> rcases key i' x' b sz' hx' hn' hb2 with ⟨k', hk', hk1', hkl'⟩ | ⟨hni', hk', hxi', hno'⟩
              · have := hh1.inj k k' b sz sz' hkl hkl' hk1 hk1'
                subst this
                exact hk.symm.trans hk'
              · exact absurd hk1 (hno' k sz)
              · exact absurd hk1' (hno k' sz')
              · exact hh.inj i i' b sz sz' ⟨x, hxi, hn⟩ ⟨x', hxi', hn'⟩ hk hk'
            prot := fun i b sz hb => by
              rcases hβ i b sz hb with ⟨k, _, hk⟩ | ⟨_, _, hk⟩
              · exact hh1.prot k b sz hk
              · intro hp
                rcases hext.new b hp with h1 | h1
                · exact hh.prot i b sz hk h1
                · have := hh.lt i b sz hk
                  omega
            plt := hh1.plt }
        · rw [← e1]
          exact hv1.ren _ fun j _ z hz => hf1 j z hz
      · cases he
  · cases he

theorem gcE_sound {w0 : World} {Pr0 : Nat → Prop} {β0 : Bt} {h h' : H} {m : Nat} {v v' : V} {u : Value} (e : Ext w0 Pr0 β0 w Pr β) (hm : β0.length ≤ m) (hh : Hp P w Pr β h) (hv : RV w Pr β v u) (he : gcE m v h = some (v', h')) :
    ∃ β', Ext w0 Pr0 β0 w Pr β' ∧ Hp P w Pr β' h' ∧ RV w Pr β' v' u := by
  unfold gcE at he
  dsimp only at he
  generalize hids : reach h 400 [] (List.range m ++ refs v) = ids at he
  have hnd : ids.Nodup := by rw [← hids]; exact reach_nodup _ _ _ _ (by simp)
  split at he
  · rename_i hc
    simp only [Bool.and_eq_true] at hc
    obtain ⟨⟨hc1, hc2⟩, hc3⟩ := hc
    injection he with he
    injection he with e1 e2
    subst e1 e2
    have hin : ∀ i ∈ ids, i < h.length ∧ ∀ j ∈ refsB ((h[i]?).getD .gone), j ∈ ids := fun i hi => by
      have := List.all_eq_true.1 hc2 i hi
      simp only [Bool.and_eq_true, decide_eq_true_eq] at this
      exact ⟨this.2, contains_mem this.1⟩
    have htake : ids.take m = List.range m := by simpa using hc3
    refine ⟨subT β ids, ⟨e.size, e.os, e.tape, e.out, e.pr, e.new, fun i x hx => ?_, fun k b sz hk => ?_, e.sz, e.keep⟩, hh.sub hnd (fun i hi => (hin i hi).1) (fun i hi x hx j hj => (hin i hi).2 j (by rw [hx]; exact hj)), hv.ren _ fun i hi x hx => subT_at (place_at (contains_mem hc1 i hi)) hx⟩
    · have hi : i < m := Nat.lt_of_lt_of_le (List.getElem?_eq_some_iff.1 hx).1 hm
      have hid : ids[i]? = some i := by
        have h1 : (ids.take m)[i]? = (List.range m)[i]? := by rw [htake]
        rw [List.getElem?_take_of_lt hi] at h1
        rw [h1]
        simp [hi]
      exact subT_at hid (e.be i x hx)
    · obtain ⟨i, hi, hie⟩ := map_getD_some hk
      obtain ⟨b2, s2, hb2⟩ := hh.at (List.getElem?_eq_getElem (hin i (List.mem_of_getElem? hi)).1)
      rw [hb2] at hie
      simp at hie
      exact e.bn i b sz (by rw [hb2, hie.1, hie.2])
  · cases he

end
end Go.Ab
