/- An evaluator of the program over states of which some values are told, and that what it says the program does. -/
import Derived.Test.YthbnhmmdafkcfaaGreatEngD2
set_option linter.unusedVariables false
set_option linter.unnecessarySimpa false
set_option linter.unusedSimpArgs false
namespace Go.Ab

section
variable {P : Program} {O : Orc}

theorem opE_congr {o : Oper} {ρ ρ' : Operand → V} {h : H} (hx : ∀ x ∈ o.op.operands, ρ x = ρ' x) : opE P O o ρ h = opE P O o ρ' h := by
  unfold opE
  cases hop : o.op with
  | call c =>
    rw [hop] at hx
    obtain ⟨callee, args, ats⟩ := c
    have ha : args.toList.map ρ = args.toList.map ρ' := List.map_congr_left fun x hm => hx x (by
      simp only [Op.operands, Call.operands]
      cases callee <;> simp_all)
    cases callee with
    | value f =>
      have hf : ρ f = ρ' f := hx f (by simp [Op.operands, Call.operands])
      simp only [ha, hf]
    | invoke r name =>
      have hf : ρ r = ρ' r := hx r (by simp [Op.operands, Call.operands])
      simp only [ha, hf]
    | builtin b =>
      have hb : ∀ x ∈ args.toList, ρ x = ρ' x := fun x hm => hx x (by simpa [Op.operands, Call.operands] using hm)
      cases b <;> simp only [ha]
      · split
        · rename_i s x t u h1 h2
          rw [hb s (by simp [h1]), hb x (by simp [h1])]
        · rfl
      · split
        · rename_i m k r t r2 h1 h2
          rw [hb m (by simp [h1]), hb k (by simp [h1])]
        · rfl
      · split
        · rename_i x t h1 h2
          rw [hb x (by simp [h1])]
        · rfl
  | build t ps =>
    rw [hop] at hx
    have : (ps.toList.map fun p => (p.1, ρ p.2)) = ps.toList.map fun p => (p.1, ρ' p.2) := List.map_congr_left fun p hp => by
      rw [hx p.2 (by simp [Op.operands]; exact ⟨p.1, by simpa using hp⟩)]
    simp only [this]
  | buildSlice t n ps =>
    rw [hop] at hx
    have : (ps.toList.map fun p => (p.1, ρ p.2)) = ps.toList.map fun p => (p.1, ρ' p.2) := List.map_congr_left fun p hp => by
      rw [hx p.2 (by simp [Op.operands]; exact ⟨p.1, by simpa using hp⟩)]
    simp only [this]
  | makeFunc f a b =>
    rw [hop] at hx
    have h1 : a.toList.map ρ = a.toList.map ρ' := List.map_congr_left fun x hm => hx x (by simp [Op.operands]; left; simpa using hm)
    have h2 : b.toList.map ρ = b.toList.map ρ' := List.map_congr_left fun x hm => hx x (by simp [Op.operands]; right; simpa using hm)
    cases f <;> first | rfl | simp only [h1, h2]
  | slice t x lo hi mx =>
    rw [hop] at hx
    cases lo <;> cases hi <;> cases mx <;> simp_all [Op.operands]
  | makeMap t r =>
    cases r <;> rfl
  | next x st =>
    rw [hop] at hx
    simp [Op.operands] at hx
    cases st
    · rfl
    · simp only [hx]
  | _ =>
    first
      | rfl
      | (rw [hop] at hx
         simp [Op.operands] at hx
         simp [hx])


/-! ### what an operation reads and writes -/
def elemAt (h : H) (i j : Nat) : Option (List V) := (getB h i).bind fun b => b.2.1[j]?

/-- Two heaps that agree where it is read. -/
def Agree (h h' : H) : Foot → Prop
  | .no => True
  | .typ i => (getB h i).map (·.1) = (getB h' i).map (·.1)
  | .blk i => h[i]? = h'[i]?
  | .cell i j o n => (elemAt h i j).map List.length = (elemAt h' i j).map List.length ∧ ∀ e e', elemAt h i j = some e → elemAt h' i j = some e' → ∀ p, o ≤ p → p ≤ o + n → e[p]? = e'[p]?

theorem Agree.refl (h : H) (r : Foot) : Agree h h r := by
  cases r with
  | no => trivial
  | typ i => rfl
  | blk i => rfl
  | cell i j o n => exact ⟨rfl, fun e e' h1 h2 p _ _ => by rw [h1] at h2; injection h2 with h2; rw [h2]⟩

theorem Agree.symm {h h' : H} {r : Foot} (a : Agree h h' r) : Agree h' h r := by
  cases r with
  | no => trivial
  | typ i => exact Eq.symm a
  | blk i => exact Eq.symm a
  | cell i j o n => exact ⟨a.1.symm, fun e e' h1 h2 p hp hq => (a.2 e' e h2 h1 p hp hq).symm⟩

theorem Agree.trans {h h1 h2 : H} {r : Foot} (a : Agree h h1 r) (b : Agree h1 h2 r) : Agree h h2 r := by
  cases r with
  | no => trivial
  | typ i => exact Eq.trans a b
  | blk i => exact Eq.trans a b
  | cell i j o n =>
    refine ⟨a.1.trans b.1, fun e e' h1' h2' p hp hq => ?_⟩
    have h3 := a.1
    rw [h1'] at h3
    obtain ⟨e1, he1, _⟩ := Option.map_eq_some_iff.1 h3.symm
    exact (a.2 e e1 h1' he1 p hp hq).trans (b.2 e1 e' he1 h2' p hp hq)

theorem getB_at {h h' : H} {i : Nat} (hb : h[i]? = h'[i]?) : getB h i = getB h' i := by unfold getB; rw [hb]

/-- A block as before is as before in all that is read of it. -/
theorem Agree.of_blk {h h' : H} {r : Foot} (hr : ∀ i, (r = .typ i ∨ r = .blk i ∨ ∃ j o n, r = .cell i j o n) → h[i]? = h'[i]?) : Agree h h' r := by
  cases r with
  | no => trivial
  | typ i => exact congrArg _ (getB_at (hr i (.inl rfl)))
  | blk i => exact hr i (.inr (.inl rfl))
  | cell i j o n =>
    have : elemAt h i j = elemAt h' i j := by unfold elemAt; rw [getB_at (hr i (.inr (.inr ⟨j, o, n, rfl⟩)))]
    exact ⟨by rw [this], fun e e' h1 h2 p _ _ => by rw [this, h2] at h1; injection h1 with h1; rw [h1]⟩

theorem Agree.append {h : H} {r : Foot} (hr : Foot.inH h r = true) (l : List B) : Agree h (h ++ l) r :=
  Agree.of_blk fun i hi => by
    have : i < h.length := by
      rcases hi with rfl | rfl | ⟨j, o, n, rfl⟩ <;> simpa [Foot.inH] using hr
    rw [List.getElem?_append_left this]

/-- A block written that is not read. -/
theorem Agree.set {h : H} {r : Foot} {i : Nat} (hr : r.hits (.blk i) = false) (x : B) : Agree h (h.set i x) r :=
  Agree.of_blk fun k hk => by
    have : k ≠ i := by
      rcases hk with rfl | rfl | ⟨j, o, n, rfl⟩ <;> simpa [Foot.hits] using hr
    rw [List.getElem?_set_ne (Ne.symm this)]

theorem part_agree {agg : Bool} {sz o : Nat} {e e' : List V} (hl : e.length = e'.length) (hp : ∀ p, o ≤ p → p ≤ o + (sz - 1) → e[p]? = e'[p]?) : partV agg sz e o = partV agg sz e' o := by
  unfold partV
  cases agg
  · simpa using hp o (Nat.le_refl _) (by omega)
  · simp only [if_true, hl]
    split
    · rename_i hle
      congr 2
      apply List.ext_getElem?
      intro k
      rw [List.getElem?_take, List.getElem?_take]
      split
      · rename_i hk
        rw [List.getElem?_drop, List.getElem?_drop]
        exact hp (o + k) (by omega) (by omega)
      · rfl
    · rfl

theorem bind_elem {α : Type} (h : H) (i j : Nat) (g : List V → Option α) : ((getB h i).bind fun b => (b.2.1[j]?).bind g) = (elemAt h i j).bind g := by
  unfold elemAt
  cases getB h i <;> rfl

theorem loadE_agree {t : TypeId} {x : V} {h h' : H} (ha : Agree h h' (match x with | .ptr i j k => .cell i j k (szT P t - 1) | _ => .no)) : loadE P t x h = loadE P t x h' := by
  unfold loadE
  cases hti : tyI P t with
  | none => rfl
  | some ti =>
    obtain ⟨inf, d, z, hinf, hd, _, htd, hsz, _⟩ := tyI_spec hti
    simp only [Option.bind_some]
    cases x with
    | ptr i j k =>
      dsimp only at ha ⊢
      rw [bind_elem, bind_elem]
      cases h1 : elemAt h i j with
      | none =>
        have := ha.1
        rw [h1] at this
        rw [Option.map_eq_none_iff.1 this.symm]
      | some e =>
        have := ha.1
        rw [h1] at this
        obtain ⟨e', he', hl⟩ := Option.map_eq_some_iff.1 this.symm
        rw [he']
        simp only [Option.bind_some]
        exact part_agree hl.symm (by rw [hsz, ← szT_of hinf]; exact ha.2 e e' h1 he')
    | _ => rfl

theorem bind_typ {α : Type} {h h' : H} {i : Nat} (ha : (getB h i).map (·.1) = (getB h' i).map (·.1)) (g : TypeId → Option α) : ((getB h i).bind fun q => g q.1) = (getB h' i).bind fun q => g q.1 := by
  cases h1 : getB h i with
  | none => rw [h1] at ha; rw [Option.map_eq_none_iff.1 ha.symm]
  | some q =>
    rw [h1] at ha
    obtain ⟨q', hq', he⟩ := Option.map_eq_some_iff.1 ha.symm
    rw [hq']
    simp only [Option.bind_some, he]

theorem idxE_agree {t : TypeId} {x i : V} {h h' : H} (ha : Agree h h' (match x with | .row i _ _ _ => .typ i | _ => .no)) : idxE P t x i h = idxE P t x i h' := by
  unfold idxE
  cases asI i with
  | none => rfl
  | some n =>
    cases tyI P t with
    | none => rfl
    | some ti =>
      simp only [Option.bind_some]
      cases x with
      | row b j m c =>
        cases ti.d <;> first | rfl | skip
        rename_i e
        dsimp only
        cases tyI P e with
        | none => rfl
        | some te => exact bind_typ (h := h) (h' := h') ha fun q => (tyI P q).bind fun tq => if te.size = tq.size ∧ 0 ≤ n ∧ n < m then some (V.ptr b (j + n.toNat) 0) else none
      | tr t => cases t <;> cases ti.d <;> rfl
      | _ => cases ti.d <;> rfl

theorem slcE_agree {t : TypeId} {x : V} {lo hi : Option V} {h h' : H} (ha : Agree h h' (match x with | .row i _ _ _ => .typ i | _ => .no)) : slcE P t x lo hi h = slcE P t x lo hi h' := by
  unfold slcE
  cases tyI P t with
  | none => rfl
  | some ti =>
    simp only [Option.bind_some]
    cases x with
    | row b j m c =>
      cases ti.d <;> first | rfl | skip
      rename_i e
      dsimp only
      cases tyI P e with
      | none => rfl
      | some te =>
        exact bind_typ (h := h) (h' := h') ha fun q => (tyI P q).bind fun tq => (bndE 0 lo).bind fun l => (bndE m hi).bind fun u =>
          if te.size = tq.size ∧ 0 ≤ l ∧ l ≤ u ∧ u ≤ m then some (V.row b (j + l.toNat) (u - l).toNat (c - l.toNat)) else none
    | tr t =>
      cases t with
      | sl sz es => cases ti.d <;> rfl
      | sc v =>
        cases v with
        | slice a n c => cases a <;> cases n <;> cases c <;> cases ti.d <;> rfl
        | map r => cases r <;> cases ti.d <;> rfl
        | _ => cases ti.d <;> rfl
    | _ => cases ti.d <;> rfl

theorem lenE_agree {t : TypeId} {x : V} {h h' : H} (ha : Agree h h' (match x with | .mp i => .blk i | _ => .no)) : lenE P t x h = lenE P t x h' := by
  unfold lenE
  cases tyI P t with
  | none => rfl
  | some ti =>
    simp only [Option.bind_some]
    cases x with
    | mp i =>
      have : h[i]? = h'[i]? := ha
      cases ti.d <;> first | rfl | (dsimp only; rw [this])
    | tr t =>
      cases t with
      | sl sz es => cases ti.d <;> rfl
      | sc v =>
        cases v with
        | slice a n c => cases a <;> cases n <;> cases c <;> cases ti.d <;> rfl
        | map r => cases r <;> cases ti.d <;> rfl
        | _ => cases ti.d <;> rfl
    | _ => cases ti.d <;> rfl

theorem lkpE_agree {t : TypeId} {m k : V} {ok : Bool} {h h' : H} (ha : Agree h h' (match m with | .mp i => .blk i | _ => .no)) : lkpE P t m k ok h = lkpE P t m k ok h' := by
  unfold lkpE
  have : mapOf h m = mapOf h' m := by
    cases m with
    | mp i =>
      have : h[i]? = h'[i]? := ha
      unfold mapOf
      dsimp only
      rw [this]
    | tr t =>
      cases t with
      | sl sz es => rfl
      | sc v =>
        cases v with
        | map r => cases r <;> rfl
        | _ => rfl
    | _ => rfl
  rw [this]

theorem quiet_agree {o : Oper} {ρ : Operand → V} {h h' h1 : H} {v : V} (hl : loud o = false) (he : opE P O o ρ h = some (v, h1)) (ha : Agree h h' (rdF P o ρ)) : h1 = h ∧ opE P O o ρ h' = some (v, h') := by
  have fin : ∀ {f : H → Option V}, (f h).map (·, h) = some (v, h1) → f h = f h' → h1 = h ∧ (f h').map (·, h') = some (v, h') := fun {f} h2 h3 => by
    rw [← h3]
    cases hf : f h with
    | none => rw [hf] at h2; cases h2
    | some x =>
      rw [hf] at h2
      simp at h2
      exact ⟨h2.2.symm, by simp [h2.1]⟩
  unfold opE at he ⊢
  unfold rdF at ha
  unfold loud at hl
  cases hop : o.op with
  | call c =>
    obtain ⟨callee, args, ats⟩ := c
    rw [hop] at he ha hl
    cases callee with
    | value f => cases hl
    | invoke r name => cases hl
    | builtin b =>
      cases b with
      | len =>
        dsimp only at he ha ⊢
        split at he
        · rename_i x t h1 h2
          rw [h1] at ha
          simp only [List.map_cons, List.map_nil] at ha
          refine fin (f := lenE P t (ρ x)) he (lenE_agree ?_)
          revert ha
          cases ρ x <;> exact fun ha => ha
        · cases he
      | max => exact fin (f := fun _ => mmE true (args.toList.map ρ)) he rfl
      | min => exact fin (f := fun _ => mmE false (args.toList.map ρ)) he rfl
      | _ => exact absurd (show true = false from hl) (by decide)
  | load t x => rw [hop] at he ha hl; exact fin (f := loadE P t (ρ x)) he (loadE_agree ha)
  | indexAddr t x i => rw [hop] at he ha hl; exact fin (f := idxE P t (ρ x) (ρ i)) he (idxE_agree ha)
  | slice t x lo hi mx =>
    rw [hop] at he ha hl
    cases mx with
    | none => exact fin (f := slcE P t (ρ x) (lo.map ρ) (hi.map ρ)) he (slcE_agree ha)
    | some m => cases he
  | lookup t m k ok => rw [hop] at he ha hl; exact fin (f := lkpE P t (ρ m) (ρ k) ok) he (lkpE_agree ha)
  | move x => rw [hop] at he; simp at he ⊢; exact ⟨he.2.symm, he.1⟩
  | assign x => rw [hop] at he; simp at he ⊢; exact ⟨he.2.symm, he.1⟩
  | pick c a b =>
    rw [hop] at he
    dsimp only at he ⊢
    cases hc : asB (ρ c) with
    | none => rw [hc] at he; cases he
    | some t => rw [hc] at he; simp at he ⊢; exact ⟨he.2.symm, he.1⟩
  | build t ps => rw [hop] at he; exact fin (f := fun _ => buildE P t (ps.toList.map fun p => (p.1, ρ p.2))) he rfl
  | nilCheck x =>
    rw [hop] at he
    dsimp only at he ⊢
    split at he
    · simp at he ⊢; exact ⟨he.2.symm, he.1⟩
    · simp at he ⊢; exact ⟨he.2.symm, he.1⟩
    · simp at he ⊢; exact ⟨he.2.symm, he.1⟩
    · simp at he ⊢; exact ⟨he.2.symm, he.1⟩
    · rename_i name t v0 hx
      cases hm : mthI P t name with
      | none => rw [hm] at he; cases he
      | some K => rw [hm] at he; simp at he ⊢; exact ⟨he.2.symm, he.1⟩
    · cases he
  | binOp op t x y z => rw [hop] at he; exact fin (f := fun _ => binE P op t (ρ x) (ρ y)) he rfl
  | unOp op t x => rw [hop] at he; exact fin (f := fun _ => unE op (ρ x)) he rfl
  | convert s d x =>
    rw [hop] at he
    dsimp only at he ⊢
    split at he
    · rename_i hs
      rw [if_pos hs]
      exact fin (f := fun _ => convE P d (ρ x)) he rfl
    · cases he
  | makeInterface t x =>
    rw [hop] at he
    dsimp only at he ⊢
    split at he
    · cases he
    · rename_i hs
      rw [if_neg hs]
      simp at he ⊢; exact ⟨he.2.symm, he.1⟩
  | makeFunc f a b =>
    rw [hop] at he
    cases f with
    | func f => simp at he ⊢; exact ⟨he.2.symm, he.1⟩
    | method name =>
      dsimp only at he ⊢
      split at he
      · simp at he ⊢; exact ⟨he.2.symm, he.1⟩
      · cases he
    | _ => cases he
  | fieldAddr t x f => rw [hop] at he; exact fin (f := fun _ => fldAE P t (ρ x) f) he rfl
  | field t x f => rw [hop] at he; exact fin (f := fun _ => fldE P t (ρ x) f) he rfl
  | index t x i => rw [hop] at he; exact fin (f := fun _ => ixE P t (ρ x) (ρ i)) he rfl
  | extract x i =>
    rw [hop] at he
    dsimp only at he ⊢
    split at he
    · rename_i vs hx
      exact fin (f := fun _ => vs[i]?) he rfl
    · cases he
  | _ =>
    rw [hop] at he hl
    first
      | exact absurd (show true = false from hl) (by decide)
      | exact absurd (show (none : Option (V × H)) = some _ from he) (by simp)


theorem updE_heap {t : TypeId} {m k x : V} {h h' : H} (he : updE P t m k x h = some h') : ∃ i y, m = .mp i ∧ h' = h.set i y := by
  unfold updE at he
  cases hti : tyI P t with
  | none => simp [hti] at he
  | some ti =>
    simp only [hti, Option.bind_some] at he
    split at he
    · rename_i kt et i kv heq
      cases htk : tyI P kt with
      | none => simp [htk] at he
      | some tk =>
        simp only [htk, Option.bind_some] at he
        split at he
        · rename_i es c hi
          cases hf : findK tk.d kv es with
          | none => simp [hf] at he
          | some r =>
            simp only [hf, Option.map_some] at he
            injection he with he
            cases r with
            | none => exact ⟨i, _, rfl, he.symm⟩
            | some p => exact ⟨i, _, rfl, he.symm⟩
        · cases he
    · cases he

theorem delE_heap {t : TypeId} {m k : V} {h h' : H} (he : delE P t m k h = some h') : h' = h ∨ ∃ i y, m = .mp i ∧ h' = h.set i y := by
  unfold delE at he
  cases hti : tyI P t with
  | none => simp [hti] at he
  | some ti =>
    simp only [hti, Option.bind_some] at he
    split at he
    · rename_i kt et i kv heq
      cases htk : tyI P kt with
      | none => simp [htk] at he
      | some tk =>
        simp only [htk, Option.bind_some] at he
        split at he
        · rename_i es c hi
          cases hf : findK tk.d kv es with
          | none => simp [hf] at he
          | some r =>
            simp only [hf, Option.map_some] at he
            injection he with he
            cases r with
            | none => exact .inl he.symm
            | some p => exact .inr ⟨i, _, rfl, he.symm⟩
        · cases he
    · cases he

theorem entE_heap {t : TypeId} {m k v : V} {h h' : H} (he : entE P t m k h = some (v, h')) : ∃ i y, m = .mp i ∧ h' = h.set i y := by
  unfold entE at he
  cases hti : tyI P t with
  | none => simp [hti] at he
  | some ti =>
    simp only [hti, Option.bind_some] at he
    split at he
    · rename_i kt et i kv heq
      cases htk : tyI P kt with
      | none => simp [htk] at he
      | some tk =>
        cases hte : tyI P et with
        | none => simp [htk, hte] at he
        | some te =>
          simp only [htk, hte, Option.bind_some] at he
          split at he
          · rename_i es c hi
            cases hf : findK tk.d kv es with
            | none => simp [hf] at he
            | some r =>
              simp only [hf, Option.bind_some] at he
              cases r with
              | some p => cases he
              | none =>
                injection he with he
                injection he with e1 e2
                exact ⟨i, _, rfl, e2.symm⟩
          · cases he
    · cases he

theorem estE_heap {m st x : V} {h h' : H} (he : estE m st x h = some h') : ∃ i y, m = .mp i ∧ h' = h.set i y := by
  unfold estE at he
  cases hn : asI st with
  | none => simp [hn] at he
  | some n =>
    simp only [hn, Option.bind_some] at he
    split at he
    · rename_i i
      split at he
      · rename_i es c hi
        cases hf : es.findIdx? fun e => (e.2.2 : Int) == n + 1 with
        | none => simp [hf] at he
        | some k =>
          simp only [hf, Option.bind_some] at he
          cases hek : es[k]? with
          | none => simp [hek] at he
          | some e =>
            simp only [hek, Option.bind_some] at he
            split at he
            · injection he with he
              exact ⟨i, _, rfl, he.symm⟩
            · cases he
      · cases he
    · cases he

theorem mkSlE_heap {t : TypeId} {l c v : V} {h h' : H} (he : mkSlE P t l c h = some (v, h')) : ∃ x, h' = h ++ [x] := by
  unfold mkSlE at he
  cases hn : asI l with
  | none => simp [hn] at he
  | some n =>
    cases hm : asI c with
    | none => simp [hn, hm] at he
    | some m =>
      cases hti : tyI P t with
      | none => simp [hn, hm, hti] at he
      | some ti =>
        simp only [hn, hm, hti, Option.bind_some] at he
        split at he
        · rename_i e heq
          cases hte : tyI P e with
          | none => simp [hte] at he
          | some te =>
            simp only [hte, Option.bind_some] at he
            split at he
            · injection he with he
              injection he with e1 e2
              exact ⟨_, e2.symm⟩
            · cases he
        · cases he

theorem bslE_heap {t : TypeId} {len : Nat} {ps : List (Nat × V)} {v : V} {h h' : H} (he : bslE P t len ps h = some (v, h')) : ∃ x, h' = h ++ [x] := by
  unfold bslE at he
  cases hti : tyI P t with
  | none => simp [hti] at he
  | some ti =>
    simp only [hti, Option.bind_some] at he
    split at he
    · rename_i e heq
      cases hte : tyI P e with
      | none => simp [hte] at he
      | some te =>
        simp only [hte, Option.bind_some] at he
        split at he
        · obtain ⟨es, _, hes⟩ := Option.map_eq_some_iff.1 he
          injection hes with e1 e2
          exact ⟨_, e2.symm⟩
        · cases he
    · cases he

theorem appE_heap {t t2 : TypeId} {s x v : V} {h h' : H} (he : appE P t t2 s x h = some (v, h')) : h' = h ∨ (∃ y, h' = h ++ [y]) ∨ ∃ b j n c, s = .row b j n c ∧ ((∃ y, h' = h.set b y) ∨ ∃ y z, h' = h.set b y ++ [z]) := by
  unfold appE at he
  cases hti : tyI P t with
  | none => simp [hti] at he
  | some ti =>
    cases ht2 : tyI P t2 with
    | none => simp [hti, ht2] at he
    | some t2i =>
      simp only [hti, ht2, Option.bind_some] at he
      split at he
      · rename_i e e2 h1 h2
        cases hte : tyI P e with
        | none => simp [hte] at he
        | some te =>
          cases hes : elemsE h x with
          | none => simp [hte, hes] at he
          | some ys =>
            simp only [hte, hes, Option.bind_some] at he
            split at he
            · split at he
              · split at he
                · injection he with he
                  injection he with e1 e2
                  exact .inl e2.symm
                · split at he
                  · injection he with he
                    injection he with e1 e2
                    exact .inr (.inl ⟨_, e2.symm⟩)
                  · cases he
              · rename_i b j n c
                cases hg : getB h b with
                | none => rw [hg] at he; cases he
                | some q =>
                  rw [hg] at he
                  simp only [Option.bind_some] at he
                  split at he
                  · split at he
                    · injection he with he
                      injection he with e1 e2
                      exact .inr (.inr ⟨b, j, n, c, rfl, .inl ⟨_, e2.symm⟩⟩)
                    · split at he
                      · injection he with he
                        injection he with e1 e2
                        exact .inr (.inr ⟨b, j, n, c, rfl, .inr ⟨_, _, e2.symm⟩⟩)
                      · cases he
                  · cases he
              · cases he
            · cases he
      · cases he

theorem setL_other {α : Type} {l vs : List α} {o k : Nat} (hl : o + vs.length ≤ l.length) (hk : k < o ∨ o + vs.length ≤ k) : (setL l o vs)[k]? = l[k]? := by
  rw [setL_get vs l o k hl, if_neg (by omega)]

theorem storeE_agree {t : TypeId} {x y : V} {h h' : H} (he : storeE P t x y h = some h') : ∃ i j o, x = .ptr i j o ∧ h'.length = h.length ∧ ∀ r : Foot, r.hits (.cell i j o (szT P t - 1)) = false → Agree h h' r := by
  unfold storeE at he
  cases hti : tyI P t with
  | none => simp [hti] at he
  | some ti =>
    obtain ⟨inf, d, z, hinf, hd, _, htd, hsz, _⟩ := tyI_spec hti
    simp only [hti, Option.bind_some] at he
    split at he
    · rename_i i j o
      cases hg : getB h i with
      | none => rw [hg] at he; cases he
      | some q =>
        obtain ⟨t', es, ex⟩ := q
        rw [hg] at he
        simp only [Option.bind_some] at he
        cases hj : es[j]? with
        | none => rw [hj] at he; cases he
        | some e =>
          rw [hj] at he
          simp only [Option.bind_some] at he
          split at he
          · rename_i hc
            injection he with he
            refine ⟨i, j, o, rfl, by rw [← he]; simp, fun r hr => ?_⟩
            have hi := getB_spec hg
            have hil : i < h.length := (List.getElem?_eq_some_iff.1 hi).1
            have hjl : j < es.length := (List.getElem?_eq_some_iff.1 hj).1
            have hother : ∀ k, k ≠ i → h[k]? = h'[k]? := fun k hk => by rw [← he, List.getElem?_set_ne (Ne.symm hk)]
            have hg' : getB h' i = some (t', es.set j (setL e o y.cells), ex) := by
              rw [← he]
              simp [getB, hil]
            cases r with
            | no => trivial
            | typ k =>
              by_cases hk : k = i
              · subst hk
                show (getB h k).map _ = (getB h' k).map _
                rw [hg, hg']
                rfl
              · exact congrArg _ (getB_at (hother k hk))
            | blk k =>
              have hk : k ≠ i := by simpa [Foot.hits] using hr
              exact hother k hk
            | cell k j' o' n' =>
              by_cases hk : k = i
              · subst hk
                have e1 : elemAt h k j' = es[j']? := by simp [elemAt, hg]
                have e2 : elemAt h' k j' = (es.set j (setL e o y.cells))[j']? := by simp [elemAt, hg']
                by_cases hjj : j' = j
                · subst hjj
                  have e2' : elemAt h' k j' = some (setL e o y.cells) := by rw [e2, List.getElem?_set_self hjl]
                  rw [hj] at e1
                  refine ⟨by rw [e1, e2']; simp [setL_length], fun a b ha hb p hp hq => ?_⟩
                  rw [e1] at ha; injection ha with ha; subst ha
                  rw [e2'] at hb; injection hb with hb; subst hb
                  symm
                  apply setL_other hc.2.1
                  simp [Foot.hits] at hr
                  rw [szT_of hinf, ← hsz] at hr
                  rw [hc.1]
                  by_cases h0 : ti.size = 0
                  · omega
                  · omega
                · have : elemAt h k j' = elemAt h' k j' := by rw [e1, e2, List.getElem?_set_ne (Ne.symm hjj)]
                  exact ⟨by rw [this], fun a b ha hb p _ _ => by rw [this, hb] at ha; injection ha with ha; rw [ha]⟩
              · have : elemAt h k j' = elemAt h' k j' := by unfold elemAt; rw [getB_at (hother k hk)]
                exact ⟨by rw [this], fun a b ha hb p _ _ => by rw [this, hb] at ha; injection ha with ha; rw [ha]⟩
          · cases he
    · cases he

theorem callE_agree {K : FuncId} {args : List V} {v : V} {h h' : H} (he : callE O K args h = some (v, h')) : h.length ≤ h'.length ∧
    ∀ r : Foot, Foot.inH h r = true → (∀ f ∈ (reach h 400 [] (refsL args)).map Foot.blk, r.hits f = false) → Agree h h' r := by
  unfold callE at he
  dsimp only at he
  split at he
  · cases hr : O K (renL (place (reach h 400 [] (refsL args))) args) (Ab.sub h (reach h 400 [] (refsL args))) with
    | none => rw [hr] at he; cases he
    | some q =>
      rw [hr] at he
      simp only [Option.bind_some] at he
      split at he
      · injection he with he
        injection he with e1 e2
        refine ⟨by rw [← e2]; simp [putAll_length], fun r hin hno => Agree.of_blk fun i hi => ?_⟩
        have hil : i < h.length := by rcases hi with rfl | rfl | ⟨j, o, n, rfl⟩ <;> simpa [Foot.inH] using hin
        have hni : i ∉ reach h 400 [] (refsL args) := fun hm => by
          have := hno _ (List.mem_map.2 ⟨i, hm, rfl⟩)
          rcases hi with rfl | rfl | ⟨j, o, n, rfl⟩ <;> simp [Foot.hits] at this
        rw [← e2, List.getElem?_append_left (by rw [putAll_length]; exact hil), putAll_other _ _ _ _ hni]
      · cases he
  · cases he

theorem op_agree {o : Oper} {ρ : Operand → V} {h h' : H} {v : V} (he : opE P O o ρ h = some (v, h')) : h.length ≤ h'.length ∧
    ∀ r : Foot, Foot.inH h r = true → (∀ f ∈ modF P o ρ h, r.hits f = false) → Agree h h' r := by
  cases hl : loud o with
  | false =>
    have := (quiet_agree hl he (Agree.refl h _)).1
    subst this
    exact ⟨Nat.le_refl _, fun r _ _ => Agree.refl _ r⟩
  | true =>
    unfold opE at he
    unfold modF
    unfold loud at hl
    have app : ∀ {x : B}, h' = h ++ [x] → h.length ≤ h'.length ∧ ∀ r : Foot, Foot.inH h r = true → Agree h h' r := fun {x} e => by
      subst e
      exact ⟨by simp, fun r hr => Agree.append hr _⟩
    have st : ∀ {m : V} {fs : List Foot}, (∃ i y, m = .mp i ∧ h' = h.set i y) → fs = (match m with | .mp i => [Foot.blk i] | _ => []) → h.length ≤ h'.length ∧ ∀ r : Foot, Foot.inH h r = true → (∀ f ∈ fs, r.hits f = false) → Agree h h' r := fun {m fs} e hfs => by
      obtain ⟨i, y, rfl, rfl⟩ := e
      subst hfs
      exact ⟨by simp, fun r _ hr => Agree.set (hr _ (by simp)) y⟩
    cases hop : o.op with
    | alloc t =>
      rw [hop] at he
      dsimp only at he ⊢
      cases hti : tyI P t with
      | none => rw [hti] at he; cases he
      | some ti =>
        rw [hti] at he
        simp only [Option.bind_some] at he
        split at he
        · injection he with he
          injection he with e1 e2
          exact ⟨(app e2.symm).1, fun r hr _ => (app e2.symm).2 r hr⟩
        · cases he
    | box t x =>
      rw [hop] at he
      dsimp only at he ⊢
      cases hti : tyI P t with
      | none => rw [hti] at he; cases he
      | some ti =>
        rw [hti] at he
        simp only [Option.bind_some] at he
        split at he
        · injection he with he
          injection he with e1 e2
          exact ⟨(app e2.symm).1, fun r hr _ => (app e2.symm).2 r hr⟩
        · cases he
    | buildSlice t n ps =>
      rw [hop] at he
      obtain ⟨x, hx⟩ := bslE_heap he
      exact ⟨(app hx).1, fun r hr _ => (app hx).2 r hr⟩
    | makeSlice t l c =>
      rw [hop] at he
      obtain ⟨x, hx⟩ := mkSlE_heap he
      exact ⟨(app hx).1, fun r hr _ => (app hx).2 r hr⟩
    | makeMap t r =>
      rw [hop] at he
      cases r with
      | none =>
        injection he with he
        injection he with e1 e2
        exact ⟨(app e2.symm).1, fun r hr _ => (app e2.symm).2 r hr⟩
      | some x => cases he
    | range t x =>
      rw [hop] at he
      dsimp only at he ⊢
      cases hti : tyI P t with
      | none => rw [hti] at he; cases he
      | some ti =>
        rw [hti] at he
        simp only [Option.bind_some] at he
        split at he
        · injection he with he
          injection he with e1 e2
          exact ⟨(app e2.symm).1, fun r hr _ => (app e2.symm).2 r hr⟩
        · cases he
    | insert t m k x =>
      rw [hop] at he
      obtain ⟨h1, h2, h3⟩ := Option.map_eq_some_iff.1 he
      injection h3 with e1 e2
      subst e2
      exact st (updE_heap h2) rfl
    | mapUpdate t m k x =>
      rw [hop] at he
      obtain ⟨h1, h2, h3⟩ := Option.map_eq_some_iff.1 he
      injection h3 with e1 e2
      subst e2
      exact st (updE_heap h2) rfl
    | mapEntry t m k =>
      rw [hop] at he
      exact st (entE_heap he) rfl
    | entryStore t m s x =>
      rw [hop] at he
      obtain ⟨h1, h2, h3⟩ := Option.map_eq_some_iff.1 he
      injection h3 with e1 e2
      subst e2
      exact st (estE_heap h2) rfl
    | store t x y =>
      rw [hop] at he
      obtain ⟨h1, h2, h3⟩ := Option.map_eq_some_iff.1 he
      injection h3 with e1 e2
      subst e2
      obtain ⟨i, j, k, hx, hlen, hag⟩ := storeE_agree h2
      dsimp only
      rw [hx]
      exact ⟨by omega, fun r _ hr => hag r (hr _ (by simp))⟩
    | next x s =>
      rw [hop] at he
      cases s with
      | false => cases he
      | true =>
        dsimp only at he ⊢
        split at he
        · rename_i i hx
          rw [hx]
          split at he
          · split at he
            · injection he with he
              injection he with e1 e2
              subst e2
              exact ⟨by simp, fun r _ hr => Agree.set (hr _ (by simp)) _⟩
            · injection he with he
              injection he with e1 e2
              subst e2
              exact ⟨Nat.le_refl _, fun r _ _ => Agree.refl _ r⟩
          · cases he
        · cases he
    | call c =>
      obtain ⟨callee, args, ats⟩ := c
      rw [hop] at he
      cases callee with
      | value f =>
        dsimp only at he ⊢
        unfold calls at he
        cases hca : callArgs P (ρ f) (args.toList.map ρ) with
        | none => rw [hca] at he; cases he
        | some c =>
          rw [hca] at he
          simp only [Option.bind_some] at he
          exact callE_agree he
      | invoke r name =>
        dsimp only at he ⊢
        unfold calls at he
        cases hca : callArgs P (.mth name (ρ r)) (args.toList.map ρ) with
        | none => rw [hca] at he; cases he
        | some c =>
          rw [hca] at he
          simp only [Option.bind_some] at he
          exact callE_agree he
      | builtin b =>
        cases b with
        | append =>
          dsimp only at he ⊢
          split at he
          · rename_i s x t u h1 h2
            rw [h1]
            simp only [List.map_cons, List.map_nil]
            rcases appE_heap he with rfl | ⟨y, hy⟩ | ⟨b, j, n, c, hs, ⟨y, rfl⟩ | ⟨y, z, rfl⟩⟩
            · exact ⟨Nat.le_refl _, fun r _ _ => Agree.refl _ r⟩
            · exact ⟨(app hy).1, fun r hr _ => (app hy).2 r hr⟩
            · rw [hs]
              exact ⟨by simp, fun r _ hr => Agree.set (hr _ (by simp)) y⟩
            · rw [hs]
              refine ⟨by simp, fun r hin hr => (Agree.set (hr _ (by simp)) y).trans (Agree.append ?_ _)⟩
              cases r <;> simpa [Foot.inH] using hin
          · cases he
        | delete =>
          dsimp only at he ⊢
          split at he
          · rename_i m k r t r2 h1 h2
            rw [h1]
            simp only [List.map_cons]
            obtain ⟨h3, h4, h5⟩ := Option.map_eq_some_iff.1 he
            injection h5 with e1 e2
            subst e2
            rcases delE_heap h4 with rfl | ⟨i, y, hm, rfl⟩
            · exact ⟨Nat.le_refl _, fun r _ _ => Agree.refl _ r⟩
            · rw [hm]
              exact ⟨by simp, fun r _ hr => Agree.set (hr _ (by simp)) y⟩
          · cases he
        | _ =>
          rw [hop] at hl
          first
            | exact absurd (show false = true from hl) (by decide)
            | exact absurd (show (none : Option (V × H)) = some _ from he) (by simp)
    | _ =>
      rw [hop] at he hl
      first
        | exact absurd (show false = true from hl) (by decide)
        | exact absurd (show (none : Option (V × H)) = some _ from he) (by simp)

theorem rdF_congr {o : Oper} {ρ ρ' : Operand → V} (hx : ∀ x ∈ o.op.operands, ρ x = ρ' x) : rdF P o ρ = rdF P o ρ' := by
  unfold rdF
  cases hop : o.op with
  | call c =>
    rw [hop] at hx
    obtain ⟨callee, args, ats⟩ := c
    have ha : args.toList.map ρ = args.toList.map ρ' := List.map_congr_left fun x hm => hx x (by
      simp only [Op.operands, Call.operands]
      cases callee <;> simp_all)
    cases callee with
    | builtin b => cases b <;> first | rfl | (dsimp only; rw [ha])
    | _ => rfl
  | load t x => rw [hop] at hx; simp [Op.operands] at hx; simp [hx]
  | lookup t x y z => rw [hop] at hx; simp [Op.operands] at hx; simp [hx]
  | indexAddr t x y => rw [hop] at hx; simp [Op.operands] at hx; simp [hx]
  | slice t x lo hi mx =>
    rw [hop] at hx
    have h0 : ρ x = ρ' x := hx x (by simp [Op.operands])
    simp [h0]
  | _ => rfl

end
end Go.Ab
