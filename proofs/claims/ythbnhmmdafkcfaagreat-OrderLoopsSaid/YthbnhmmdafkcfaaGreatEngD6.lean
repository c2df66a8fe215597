/- An evaluator of the program over states of which some values are told, and that what it says the program does. -/
import Derived.Test.YthbnhmmdafkcfaaGreatEngD5
set_option linter.unusedVariables false
set_option linter.unusedSimpArgs false
namespace Go.Ab

section
variable {P : Program} {O : Orc} {w0 : World} {Pr0 : Nat → Prop} {β0 : Bt}

theorem Rel.drew {s : St} {a : Act} {w : World} (h : Rel P w0 Pr0 β0 s a w) : Rel P w0 Pr0 β0 s a { w with drawn := w.drawn + 1 } := by
  obtain ⟨Pr, β, hb, hh, hl, hd⟩ := h
  exact ⟨Pr, β, hb.trans Ext.drew, hh.drew, ⟨hl.1, fun k v u h1 h2 => (hl.2 k v u h1 h2).drew⟩, hd⟩

theorem inH_of {w : World} {Pr : Nat → Prop} {β : Bt} {h : H} {ρ : Operand → V} {ev : Operand → Value} (hh : Hp P w Pr β h) (hs : Stands w Pr β ρ ev) (o : Oper) : Foot.inH h (rdF P o ρ) = true := by
  have key : ∀ (v : V) (u : Value), RV w Pr β v u → (∀ i j k, v = .ptr i j k → i < h.length) ∧ (∀ i, v = .mp i → i < h.length) ∧ ∀ i j n c, v = .row i j n c → i < h.length := fun v u hv => by
    refine ⟨fun i j k e => ?_, fun i e => ?_, fun i j n c e => ?_⟩ <;> subst e
    · obtain ⟨b, sz, hb, _⟩ := hv.ptr_inv
      rw [← hh.len]; exact (List.getElem?_eq_some_iff.1 hb).1
    · cases hv with
      | mp hb => rw [← hh.len]; exact (List.getElem?_eq_some_iff.1 hb).1
    · obtain ⟨A, cap, b, sz, _, hb, _⟩ := hv.row_inv
      rw [← hh.len]; exact (List.getElem?_eq_some_iff.1 hb).1
  unfold rdF
  split
  · rename_i t x heq
    split
    · rename_i i j k hx
      simpa [Foot.inH] using (key _ _ (hs x)).1 i j k hx
    · rfl
  · rename_i t m k ok heq
    split
    · rename_i i hx
      simpa [Foot.inH] using (key _ _ (hs m)).2.1 i hx
    · rfl
  · rename_i t x i heq
    split
    · rename_i b j n c hx
      simpa [Foot.inH] using (key _ _ (hs x)).2.2 b j n c hx
    · rfl
  · rename_i t x lo hi mx heq
    split
    · rename_i b j n c hx
      simpa [Foot.inH] using (key _ _ (hs x)).2.2 b j n c hx
    · rfl
  · rename_i args ats heq
    split
    · rename_i i hx
      cases hal : args.toList with
      | nil => simp [hal] at hx
      | cons x l =>
        simp [hal] at hx
        simpa [Foot.inH] using (key _ _ (hs x)).2.1 i hx.1
    · rfl
  · rfl

theorem drawOk_edge {ops : Array Oper} (h : drawOk ops = true) {k : Nat} {o : Oper} (ho : ops[k]? = some o) : ∀ e ∈ o.after.toList, Region.binds .any e = true → e.on < k := by
  unfold drawOk at h
  have hm : (o, k) ∈ ops.toList.zipIdx := List.mem_zipIdx_iff_getElem?.2 (by simpa using ho)
  have := List.all_eq_true.1 h _ hm
  simp only [Bool.and_eq_true] at this
  intro e he hb
  have := Array.all_eq_true'.1 this.1 e (by simpa using he)
  simpa [hb] using this

theorem drawOk_pair {ops : Array Oper} (h : drawOk ops = true) {q p : Nat} {oq op : Oper} (hq : ops[q]? = some oq) (hp : ops[p]? = some op) (hlt : q < p) :
    waits (befs ops.toList []) q p = true ∨ ((loud oq = true → loud op = true → False) ∧ Oper.apart ops oq op = true) := by
  unfold drawOk at h
  have hm : (op, p) ∈ ops.toList.zipIdx := List.mem_zipIdx_iff_getElem?.2 (by simpa using hp)
  have hm' : (oq, q) ∈ ops.toList.zipIdx := List.mem_zipIdx_iff_getElem?.2 (by simpa using hq)
  have := List.all_eq_true.1 h _ hm
  simp only [Bool.and_eq_true] at this
  have := List.all_eq_true.1 this.2 _ hm'
  simp [hlt, pairOk] at this
  rcases this with h1 | ⟨h1, h2⟩
  · exact .inl h1
  · exact .inr ⟨fun ha hb => by rcases h1 with h1 | h1 <;> simp_all, h2⟩

theorem count_set {l : List Nat} (hd : l.Nodup) {i : Nat} (hi : i ∈ l) {p p' : Nat → Bool} (hp : p i = true) (hp' : p' i = false) (hne : ∀ k, k ≠ i → p' k = p k) : l.countP p' + 1 = l.countP p := by
  induction l with
  | nil => simp at hi
  | cons x l ih =>
    obtain ⟨h1, h2⟩ := List.nodup_cons.1 hd
    by_cases hx : x = i
    · subst hx
      have : l.countP p' = l.countP p := List.countP_congr fun k hk => by rw [hne k (fun e => h1 (e ▸ hk))]
      rw [List.countP_cons_of_pos hp, List.countP_cons_of_neg (by simp [hp']), this]
    · have hi' : i ∈ l := by
        rcases List.mem_cons.1 hi with e | e
        · exact absurd e.symm hx
        · exact e
      have := ih h2 hi'
      rw [List.countP_cons, List.countP_cons, hne x hx]
      omega

theorem any_draw (hO : OSound P (callE O)) {ops : Array Oper} (hok : drawOk ops = true) {S : Nat → St} {W : Nat → Bool} {Vf : Nat → V} (hT : ∀ i o, ops[i]? = some o → Trace P O ops (befs ops.toList []) 0 [] [] S W Vf i o)
    {Q : Exit → Act → World → Prop} (hq : ∀ a' w', Rel P w0 Pr0 β0 (S ops.size) a' w' → Q .normal a' w') :
    ∀ (fuel : Nat) (listed : Array Bool) (a : Act) (w : World), listed.size = ops.size →
      (∀ k o, ops[k]? = some o → listed.getD k false = true → ∀ e ∈ o.after.toList, Region.binds .any e = true → listed.getD e.on false = true) →
      (∃ m, m ≤ ops.size ∧ (∀ k o, ops[k]? = some o → W k = true → loud o = true → (listed.getD k false = true ↔ k < m)) ∧
        Rel P w0 Pr0 β0 ⟨tmF ops Vf (fun k => listed.getD k false) (List.range ops.size) (S 0).tm, (S m).h⟩ a w) →
      (List.range ops.size).countP (fun k => !listed.getD k false) ≤ fuel → wpAny P .any ops Q fuel listed a w := by
  -- the heaps of the trace
  have hop : ∀ k, k < ops.size → ∃ o, ops[k]? = some o := fun k hk => ⟨_, Array.getElem?_eq_getElem hk⟩
  have hsame1 : ∀ k o, ops[k]? = some o → (W k = true → loud o = true → False) → (S (k + 1)).h = (S k).h := fun k o ho hn => by
    have t := hT k o ho
    cases hW : W k with
    | false => exact (t.no hW).2
    | true =>
      have hl : loud o = false := by
        cases hl : loud o with
        | false => rfl
        | true => exact (hn hW hl).elim
      exact (quiet_agree hl (t.yes hW) (Agree.refl _ _)).1
  have hlen1 : ∀ k, k < ops.size → (S k).h.length ≤ (S (k + 1)).h.length := fun k hk => by
    obtain ⟨o, ho⟩ := hop k hk
    have t := hT k o ho
    cases hW : W k with
    | false => rw [(t.no hW).2]; exact Nat.le_refl _
    | true => exact (op_agree (t.yes hW)).1
  have hlen : ∀ i j, i ≤ j → j ≤ ops.size → (S i).h.length ≤ (S j).h.length := fun i j hij => by
    induction hij with
    | refl => intro _; exact Nat.le_refl _
    | step h ih => intro hj; exact Nat.le_trans (ih (by omega)) (hlen1 _ (by omega))
  have hsame : ∀ i j, i ≤ j → j ≤ ops.size → (∀ k o, i ≤ k → k < j → ops[k]? = some o → W k = true → loud o = true → False) → (S j).h = (S i).h := fun i j hij => by
    induction hij with
    | refl => intro _ _; rfl
    | step h ih =>
      rename_i j
      intro hj hn
      obtain ⟨o, ho⟩ := hop j (by omega)
      rw [hsame1 j o ho (hn j o h (by omega) ho)]
      exact ih (by omega) fun k o hk hkj => hn k o hk (by omega)
  have inmono : ∀ i j r, i ≤ j → j ≤ ops.size → Foot.inH (S i).h r = true → Foot.inH (S j).h r = true := fun i j r hij hj hin => by
    have := hlen i j hij hj
    cases r <;> simp [Foot.inH] at hin ⊢ <;> omega
  have hagree : ∀ i j r, i ≤ j → j ≤ ops.size → Foot.inH (S i).h r = true → (∀ k o, i ≤ k → k < j → ops[k]? = some o → W k = true → loud o = true → ∀ f ∈ modF P o (S k).ev (S k).h, r.hits f = false) → Agree (S i).h (S j).h r := fun i j r hij => by
    induction hij with
    | refl => intro _ _ _; exact Agree.refl _ _
    | step h ih =>
      rename_i j
      intro hj hin hn
      obtain ⟨o, ho⟩ := hop j (by omega)
      refine (ih (by omega) hin fun k o hk hkj => hn k o hk (by omega)).trans ?_
      by_cases hWl : W j = true ∧ loud o = true
      · exact (op_agree ((hT j o ho).yes hWl.1)).2 r (inmono i j r h (by omega) hin) (hn j o h (by omega) ho hWl.1 hWl.2)
      · rw [hsame1 j o ho fun a b => hWl ⟨a, b⟩]; exact Agree.refl _ _
  have hdst : ∀ k o, ops[k]? = some o → dstAt ops k = o.dst := fun k o ho => by simp [dstAt, ho]
  have hput : ∀ k o (tm : List V) (h h' : H), ops[k]? = some o → (St.put ⟨tm, h⟩ o.dst (Vf k) h') = ⟨put1 ops Vf tm k, h'⟩ := fun k o tm h h' ho => by
    unfold put1 St.put
    rw [hdst k o ho]
    cases o.dst <;> rfl
  have hStm : ∀ i, i ≤ ops.size → (S i).tm = tmF ops Vf (fun k => decide (k < i)) (List.range ops.size) (S 0).tm := fun i => by
    induction i with
    | zero =>
      intro _
      apply List.ext_getElem?
      intro d
      exact (tmF_none _ _ fun k _ _ => by simp).symm
    | succ i ih =>
      intro hi
      obtain ⟨o, ho⟩ := hop i (by omega)
      have h1 := (hT i o ho).put
      have h2 : (S (i + 1)).tm = put1 ops Vf (S i).tm i := by
        have := hput i o (S i).tm (S i).h (S (i + 1)).h ho
        rw [h1]
        exact congrArg St.tm this
      rw [h2, ih (by omega)]
      refine (tmF_step (L := fun k => decide (k < i)) (L' := fun k => decide (k < i + 1)) (by omega) (by simp) (by simp) (fun k hk => by simp; omega) _ fun k hik _ hLk => ?_).symm
      simp at hLk
      omega
  have hready : ∀ (listed : Array Bool), listed.size = ops.size → ∀ i, i ∈ Region.ready .any ops listed ↔ (i < ops.size ∧ listed.getD i false = false ∧ ∃ o, ops[i]? = some o ∧ ∀ e ∈ o.after.toList, Region.binds .any e = true → listed.getD e.on false = true) := fun listed hsz i => by
    unfold Region.ready
    rw [List.mem_filter, List.mem_range]
    constructor
    · rintro ⟨hi, hc⟩
      obtain ⟨o, ho⟩ := hop i hi
      have hi' : i < listed.size := by omega
      simp only [ho, Option.map_some, Option.getD_some, Bool.and_eq_true, Bool.not_eq_true', Array.all_eq_true', Bool.or_eq_true, Bool.not_eq_true'] at hc
      refine ⟨hi, ?_, o, ho, fun e he hb => ?_⟩
      · have := hc.1
        simpa [Array.getD, hi'] using this
      · rcases hc.2 e (by simpa using he) with h1 | h1
        · rw [hb] at h1; cases h1
        · exact h1
    · rintro ⟨hi, hl, o, ho, hc⟩
      have hi' : i < listed.size := by omega
      refine ⟨hi, ?_⟩
      simp only [ho, Option.map_some, Option.getD_some, Bool.and_eq_true, Bool.not_eq_true', Array.all_eq_true', Bool.or_eq_true, Bool.not_eq_true']
      refine ⟨by simpa [Array.getD, hi'] using hl, fun e he => ?_⟩
      cases hb : Region.binds .any e with
      | false => exact .inl rfl
      | true => exact .inr (hc e (by simpa using he) hb)
  have hend : ∀ (listed : Array Bool) (a : Act) (w : World), (∀ k, k < ops.size → listed.getD k false = true) →
      (∃ m, m ≤ ops.size ∧ (∀ k o, ops[k]? = some o → W k = true → loud o = true → (listed.getD k false = true ↔ k < m)) ∧
        Rel P w0 Pr0 β0 ⟨tmF ops Vf (fun k => listed.getD k false) (List.range ops.size) (S 0).tm, (S m).h⟩ a w) → Q .normal a w := fun listed a w hall hinv => by
    obtain ⟨m, hm, hml, hr⟩ := hinv
    refine hq a w ?_
    have e1 : tmF ops Vf (fun k => listed.getD k false) (List.range ops.size) (S 0).tm = (S ops.size).tm := by
      rw [hStm ops.size (Nat.le_refl _)]
      apply List.ext_getElem?
      intro d
      refine tmF_agree _ _ _ rfl rfl fun k hk _ => ?_
      have hk' := List.mem_range.1 hk
      simp only [hall k hk', hk', decide_true]
    have e2 : (S ops.size).h = (S m).h := hsame m ops.size hm (Nat.le_refl _) fun k o hmk hk ho hW hl => by
      have := (hml k o ho hW hl).1 (hall k hk)
      omega
    rw [e1, ← e2] at hr
    exact hr
  intro fuel
  induction fuel with
  | zero =>
    intro listed a w hsz hcl hinv hcnt
    have hall : ∀ k, k < ops.size → listed.getD k false = true := fun k hk => by
      have : (List.range ops.size).countP (fun k => !listed.getD k false) = 0 := by omega
      have := List.countP_eq_zero.1 this k (by simpa using hk)
      simpa using this
    refine ⟨List.eq_nil_iff_forall_not_mem.2 fun i hi => ?_, hend listed a w hall hinv⟩
    obtain ⟨h1, h2, _⟩ := (hready listed hsz i).1 hi
    rw [hall i h1] at h2
    cases h2
  | succ fuel ih =>
    intro listed a w hsz hcl hinv hcnt
    refine ⟨fun hnil => hend listed a w (fun k => ?_) hinv, fun i hi => ?_⟩
    · induction k using Nat.strongRecOn with
      | _ k ihk =>
        intro hk
        obtain ⟨o, ho⟩ := hop k hk
        cases hl : listed.getD k false with
        | true => rfl
        | false =>
          have : k ∈ Region.ready .any ops listed := (hready listed hsz k).2 ⟨hk, hl, o, ho, fun e he hb => by
            have hlt := drawOk_edge hok ho e he hb
            exact ihk _ hlt (by omega)⟩
          rw [hnil] at this
          simp at this
    · obtain ⟨hin, hLi, o, ho, hed⟩ := (hready listed hsz i).1 hi
      obtain ⟨m, hm, hml, hr⟩ := hinv
      have t := hT i o ho
      -- what it waits for has run; what waits for it has not
      have hpre : ∀ k, waits (befs ops.toList []) k i = true → listed.getD k false = true := fun k hk => waits_closed (L := fun k => listed.getD k false) hcl i o k ho hed hk
      have hpost : ∀ k, listed.getD k false = true → waits (befs ops.toList []) i k = false := fun k hk => by
        cases hw : waits (befs ops.toList []) i k with
        | false => rfl
        | true =>
          have hkn : k < ops.size := by
            rcases Nat.lt_or_ge k ops.size with h | h
            · exact h
            · rw [show listed.getD k false = false by simp [Array.getD, show ¬ k < listed.size by omega]] at hk; cases hk
          obtain ⟨ok, hok'⟩ := hop k hkn
          have := waits_closed (L := fun k => listed.getD k false) hcl k ok i hok' (hcl k ok hok' hk) hw
          rw [hLi] at this
          cases this
      have hbefore : ∀ k ok, k < i → ops[k]? = some ok → listed.getD k false = false → (loud ok = true → loud o = true → False) ∧ Oper.apart ops ok o = true ∧ waits (befs ops.toList []) k i = false := fun k ok hki hok' hk => by
        have hnw : waits (befs ops.toList []) k i = false := by
          cases hw : waits (befs ops.toList []) k i with
          | false => rfl
          | true => rw [hpre k hw] at hk; cases hk
        rcases drawOk_pair hok hok' ho hki with h1 | h1
        · rw [hnw] at h1; cases h1
        · exact ⟨h1.1, h1.2, hnw⟩
      have hbehind : ∀ k ok, i < k → ops[k]? = some ok → listed.getD k false = true → (loud o = true → loud ok = true → False) ∧ Oper.apart ops o ok = true ∧ waits (befs ops.toList []) i k = false := fun k ok hki hok' hk => by
        have hnw := hpost k hk
        rcases drawOk_pair hok ho hok' hki with h1 | h1
        · rw [hnw] at h1; cases h1
        · exact ⟨h1.1, h1.2, hnw⟩
      -- its operands
      have hlook : ∀ d, d ∈ o.looksAt ops → (tmF ops Vf (fun k => listed.getD k false) (List.range ops.size) (S 0).tm)[d]? = (S i).tm[d]? := fun d hd => by
        rw [hStm i (by omega)]
        refine tmF_agree _ _ _ rfl rfl fun k hk hkd => ?_
        have hk' := List.mem_range.1 hk
        obtain ⟨ok, hok'⟩ := hop k hk'
        rw [hdst k ok hok'] at hkd
        rcases Nat.lt_trichotomy k i with hlt | rfl | hgt
        · cases hl : listed.getD k false with
          | true => simp [hlt]
          | false => exact absurd hd ((Oper.apart_spec (hbefore k ok hlt hok' hl).2.1).1 d hkd)
        · simp [hLi]
        · cases hl : listed.getD k false with
          | false => simp; omega
          | true => exact absurd hd ((Oper.apart_spec (hbehind k ok hgt hok' hl).2.1).2.2 d hkd)
      generalize htm : tmF ops Vf (fun k => listed.getD k false) (List.range ops.size) (S 0).tm = tm at hr hlook
      have hev : ∀ X ∈ o.op.operands, St.ev ⟨tm, (S m).h⟩ X = (S i).ev X := fun X hX => by
        cases X with
        | tmp d =>
          have := hlook d (List.mem_append_left _ (List.mem_filterMap.2 ⟨.tmp d, by simpa using hX, rfl⟩))
          simp only [St.ev, List.getD_eq_getElem?_getD, this]
        | _ => rfl
      have hwant : wantE ops o tm = some (W i) := by
        rw [← t.want]
        unfold wantE
        cases hg : o.guard with
        | none => rfl
        | some g =>
          obtain ⟨j, want⟩ := g
          dsimp only
          cases hj : (ops[j]?).bind (·.dst) with
          | none => rfl
          | some d =>
            have : tm[d]? = (S i).tm[d]? := hlook d (List.mem_append_right _ (by rw [hg]; simp [hj]))
            dsimp only
            rw [this]
      -- listed behind it
      have hset : ∀ k, (listed.setIfInBounds i true).getD k false = if k = i then true else listed.getD k false := fun k => by
        have hi' : i < listed.size := by omega
        by_cases hk : k = i
        · subst hk; simp [Array.getD, hi']
        · by_cases hks : k < listed.size
          · simp [Array.getD, hks, hk, Array.getElem_setIfInBounds, Ne.symm hk]
          · simp [Array.getD, hks, hk]
      have hcl' : ∀ k o, ops[k]? = some o → (listed.setIfInBounds i true).getD k false = true → ∀ e ∈ o.after.toList, Region.binds .any e = true → (listed.setIfInBounds i true).getD e.on false = true := fun k ok hok' hk e he hb => by
        rw [hset] at hk ⊢
        split
        · rfl
        · split at hk
          · rename_i hki
            subst hki
            rw [ho] at hok'; injection hok' with hok'; subst hok'
            exact hed e he hb
          · exact hcl k ok hok' hk e he hb
      have hcnt' : (List.range ops.size).countP (fun k => !(listed.setIfInBounds i true).getD k false) ≤ fuel := by
        have := count_set (l := List.range ops.size) List.nodup_range (i := i) (by simpa using hin) (p := fun k => !listed.getD k false) (p' := fun k => !(listed.setIfInBounds i true).getD k false) (by simp only [hLi, Bool.not_false])
          (by simp only [hset, if_true, Bool.not_true]) (fun k hk => by simp only [hset, if_neg hk])
        omega
      have htm' : tmF ops Vf (fun k => (listed.setIfInBounds i true).getD k false) (List.range ops.size) (S 0).tm = put1 ops Vf tm i := by
        rw [← htm]
        refine tmF_step (L := fun k => listed.getD k false) hin hLi (by simp only [hset, if_true]) (fun k hk => by simp only [hset, if_neg hk]) _ fun k hik hkn hLk d hd hkd => ?_
        obtain ⟨ok, hok'⟩ := hop k hkn
        rw [hdst k ok hok'] at hkd
        rw [hdst i o ho] at hd
        exact (Oper.apart_spec (hbehind k ok hik hok' hLk).2.1).2.1 d hd hkd
      have hgo : ∀ (h' : H) (m' : Nat), m' ≤ ops.size → h' = (S m').h → (∀ k o, ops[k]? = some o → W k = true → loud o = true → ((listed.setIfInBounds i true).getD k false = true ↔ k < m')) →
          ∀ a' w', Rel P w0 Pr0 β0 (St.put ⟨tm, (S m).h⟩ o.dst (Vf i) h') a' w' → wpAny P .any ops Q fuel (listed.setIfInBounds i true) a' w' := fun h' m' hm' hh' hml' a' w' hr' => by
        refine ih _ a' w' (by simpa using hsz) hcl' ⟨m', hm', hml', ?_⟩ hcnt'
        rw [htm', ← hh', ← hput i o tm (S m).h h' ho]
        exact hr'
      unfold wpOp
      rw [ho]
      dsimp only
      obtain ⟨Pr, β, hb, hh, hl, hd⟩ := hr
      have hr : Rel P w0 Pr0 β0 ⟨tm, (S m).h⟩ a w := ⟨Pr, β, hb, hh, hl, hd⟩
      rw [want_wanted hl hwant]
      cases hW : W i with
      | false =>
        simp only [Bool.false_eq_true, if_false]
        refine hgo (S m).h m hm rfl (fun k ok hok' hWk hlk => ?_) _ _ ?_
        · rw [hset]
          split
          · rename_i hki; subst hki; rw [hW] at hWk; cases hWk
          · exact hml k ok hok' hWk hlk
        · rw [(t.no hW).1]
          exact undef_put hr o.dst
      | true =>
        simp only [if_true]
        left
        cases hlo : loud o with
        | true =>
          have hmi : m ≤ i := by
            rcases Nat.lt_or_ge i m with h | h
            · rw [(hml i o ho hW hlo).2 h] at hLi; cases hLi
            · exact h
          have hheap : (S i).h = (S m).h := hsame m i hmi (by omega) fun k ok hmk hki hok' hWk hlk => by
            cases hlk' : listed.getD k false with
            | true => have := (hml k ok hok' hWk hlk).1 hlk'; omega
            | false => exact (hbefore k ok hki hok' hlk').1 hlk hlo
          have hopE : opE P O o (St.ev ⟨tm, (S m).h⟩) (S m).h = some (Vf i, (S (i + 1)).h) := by
            rw [← hheap, opE_congr (ρ' := (S i).ev) (by rw [hheap]; exact hev)]
            exact t.yes hW
          refine op_wp hO hr hopE fun a' w' hr' => hgo (S (i + 1)).h (i + 1) (by omega) rfl (fun k ok hok' hWk hlk => ?_) a' w' hr'
          rw [hset]
          split
          · rename_i hki; subst hki; simp
          · rename_i hki
            constructor
            · intro hk
              have := (hml k ok hok' hWk hlk).1 hk
              omega
            · intro hk
              cases hlk' : listed.getD k false with
              | true => rfl
              | false => exact ((hbefore k ok (by omega) hok' hlk').1 hlk hlo).elim
        | false =>
          have hyes := t.yes hW
          have hq1 := (quiet_agree hlo hyes (Agree.refl _ _)).1
          have hrdf : rdF P o (St.ev ⟨tm, (S m).h⟩) = rdF P o (S i).ev := rdF_congr hev
          have hag : Agree (S i).h (S m).h (rdF P o (S i).ev) := by
            rcases Nat.lt_or_ge i m with him | him
            · refine hagree i m _ (by omega) hm (t.inh hW) fun k ok hik hkm hok' hWk hlk => ?_
              rcases Nat.eq_or_lt_of_le hik with rfl | hik'
              · rw [ho] at hok'; injection hok' with hok'; subst hok'; rw [hlo] at hlk; cases hlk
              · have hLk := (hml k ok hok' hWk hlk).2 hkm
                have := (hT k ok hok').rd hWk i o (Nat.zero_le _) hik' ho hW
                rcases this with h1 | h1
                · rw [(hbehind k ok hik' hok' hLk).2.2] at h1; cases h1
                · exact h1
            · refine (hagree m i _ him (by omega) (by rw [← hrdf]; exact inH_of hh (stands_of hl) o) fun k ok hmk hki hok' hWk hlk f hf => ?_).symm
              have hLk : listed.getD k false = false := by
                cases hlk' : listed.getD k false with
                | false => rfl
                | true => have := (hml k ok hok' hWk hlk).1 hlk'; omega
              rcases t.md hW k ok (Nat.zero_le _) hki hok' hWk f hf with h1 | h1
              · rw [(hbefore k ok hki hok' hLk).2.2] at h1; cases h1
              · exact h1
          have hopE : opE P O o (St.ev ⟨tm, (S m).h⟩) (S m).h = some (Vf i, (S m).h) := by
            rw [opE_congr (ρ' := (S i).ev) hev]
            exact (quiet_agree hlo hyes hag).2
          refine op_wp hO hr hopE fun a' w' hr' => hgo (S m).h m hm rfl (fun k ok hok' hWk hlk => ?_) a' w' hr'
          rw [hset]
          split
          · rename_i hki; subst hki; rw [ho] at hok'; injection hok' with hok'; subst hok'; rw [hlo] at hlk; cases hlk
          · exact hml k ok hok' hWk hlk

theorem drawE_wp (hO : OSound P (callE O)) {ops : Array Oper} (hok : drawOk ops = true) {s s' : St} (he : drawE P O ops (befs ops.toList []) ops.toList 0 [] [] s = some s') {a : Act} {w : World} {Q : Exit → Act → World → Prop}
    (hr : Rel P w0 Pr0 β0 s a w) (hq : ∀ a' w', Rel P w0 Pr0 β0 s' a' w' → Q .normal a' w') : wpAny P .any ops Q ops.size (Array.replicate ops.size false) a w := by
  obtain ⟨S, W, Vf, h0, hn, hT⟩ := draw_trace ops.toList 0 [] [] s (by simp) (Nat.zero_le _) he
  subst h0 hn
  have hfalse : ∀ k, (Array.replicate ops.size false).getD k false = false := fun k => by
    simp [Array.getD]
  refine any_draw hO hok (fun i o ho => hT i o (Nat.zero_le _) ho) hq ops.size _ a w (by simp) (fun k o _ h => by rw [hfalse] at h; cases h) ⟨0, Nat.zero_le _, fun k o _ _ _ => by simp [hfalse], ?_⟩ (by
    refine Nat.le_trans List.countP_le_length ?_
    simp)
  have : tmF ops Vf (fun k => (Array.replicate ops.size false).getD k false) (List.range ops.size) (S 0).tm = (S 0).tm := by
    apply List.ext_getElem?
    intro d
    exact tmF_none _ _ fun k _ _ => hfalse k
  rw [this]
  exact hr

end
end Go.Ab
