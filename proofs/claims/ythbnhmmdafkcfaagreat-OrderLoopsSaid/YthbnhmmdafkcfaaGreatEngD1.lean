/- An evaluator of the program over states of which some values are told, and that what it says the program does. -/
import Derived.Test.YthbnhmmdafkcfaaGreatEngC
set_option linter.unusedVariables false
set_option linter.unusedSimpArgs false
namespace Go.Ab

/-- A function that can be called, with a body. -/
def Callable (P : Program) (K : FuncId) : Prop := ∃ fn, P.funcs[K]? = some fn ∧ (fn.name == "runtime.NumGoroutine") = false ∧ fn.body.isNone = false

/-- A call that comes to what is said. -/
def Run (P : Program) (K : FuncId) (args : List V) (h : H) (v : V) (h' : H) : Prop :=
  ∀ (w : World) (Pr : Nat → Prop) (β : Bt) (us : List Value), Hp P w Pr β h → RL w Pr β args us →
    Calls P K us.toArray w fun e w' => ∃ r Pr' β', e = .returned r ∧ Ext w Pr β w' Pr' β' ∧ Hp P w' Pr' β' h' ∧ RV w' Pr' β' v r

def OSound (P : Program) (O : Orc) : Prop := ∀ K args h v h', O K args h = some (v, h') → Callable P K ∧ Run P K args h v h'

section
variable {P : Program} {w : World} {Pr : Nat → Prop} {β : Bt} {h : H}

theorem run_callFunc {K : FuncId} (hc : Callable P K) (args : Array Value) (w : World) : (callFunc K args).run P w = .ok (.enter K args) w := by
  obtain ⟨fn, h1, h2, h3⟩ := hc
  have h4 : (fn.name == "runtime.NumGoroutine") = false := h2
  unfold callFunc
  simp only [Sem.run_bind, run_program, Result.andThen, h1, h2, h3, Bool.false_eq_true, if_false]
  rfl

theorem mthI_run {t : TypeId} {name : String} {K : FuncId} (hm : mthI P t name = some K) (n : Nat) (v : Value) (w : World) : (method (n + 1) t v name).run P w = .ok (K, v) w ∧ (nilAhead (n + 1) t v name).run P w = .ok (some false) w := by
  unfold mthI at hm
  cases hi : P.info? t with
  | none => simp [hi] at hm
  | some i =>
    simp only [hi, Option.bind_some] at hm
    cases hf : i.methods.find? (·.name == name) with
    | none => simp [hf] at hm
    | some m =>
      simp only [hf, Option.bind_some] at hm
      split at hm
      · rename_i hp
        cases hfn : m.func with
        | none => simp [hfn] at hm
        | some f =>
          obtain ⟨f, b⟩ := f
          simp only [hfn, Option.bind_some] at hm
          cases hu : P.underlying t with
          | none => simp [hu] at hm
          | some d =>
            simp only [hu, Option.bind_some] at hm
            split at hm
            · rename_i hb
              injection hm with hm
              subst hm
              have hp' : m.path.toList = [] := by
                have : m.path = #[] := by simpa using hp
                simp [this]
              subst hb
              constructor
              · cases d <;> simp [method, run_typeInfo' w hi, hf, hp', follow, hfn, receiverAt, run_underlying hu, ptrD, Place.get]
              · cases d <;> simp [nilAhead, run_typeInfo' w hi, hf, hp', followBlind, hfn, run_underlying hu, ptrD]
            · cases hm
      · cases hm

/-- The operands stand for their values. -/
def Stands (w : World) (Pr : Nat → Prop) (β : Bt) (ρ : Operand → V) (ev : Operand → Value) : Prop := ∀ X, RV w Pr β (ρ X) (ev X)

theorem Stands.list {ρ : Operand → V} {ev : Operand → Value} (hs : Stands w Pr β ρ ev) (l : List Operand) : RL w Pr β (l.map ρ) (l.map ev) := RL.map fun x _ => hs x

theorem run_val {s : Sem Value} {r : Value} {w w' : World} (hr : s.run P w = .ok r w') : (do pure (.value (← s)) : Sem Next).run P w = .ok (.value r) w' := by
  simp [hr]

theorem run_unit {s : Sem Unit} {w w' : World} (hr : s.run P w = .ok () w') : (do s; pure .skip : Sem Next).run P w = .ok .skip w' := by
  simp [hr]

/-- What an operation without a call comes to. -/
inductive Quiet (P : Program) (o : Oper) (ev : Operand → Value) (w : World) (Pr : Nat → Prop) (β : Bt) (v : V) (h' : H) : Prop where
  | val (r : Value) (w' : World) (β' : Bt) (hr : (execOp ev o).run P w = .ok (.value r) w') (e : Ext w Pr β w' Pr β') (hh : Hp P w' Pr β' h') (hv : RV w' Pr β' v r)
  | skip (w' : World) (hr : (execOp ev o).run P w = .ok .skip w') (e : Ext w Pr β w' Pr β) (hh : Hp P w' Pr β h') (hv : v = uv)

/-- What a call goes into. -/
structure Goes (P : Program) (O : Orc) (o : Oper) (ev : Operand → Value) (w : World) (Pr : Nat → Prop) (β : Bt) (h : H) (v : V) (h' : H) (K : FuncId) (args : List V) (us : List Value) : Prop where
  hr : (execOp ev o).run P w = .ok (.enter K us.toArray) w
  hl : RL w Pr β args us
  he : callE O K args h = some (v, h')

theorem depth_succ (P : Program) : ∃ n, P.types.size + Made.depth = n + 1 := by
  refine ⟨P.types.size + Made.depth - 1, ?_⟩
  have : 0 < Made.depth := by decide
  omega

theorem calls_goes {O : Orc} (hO : OSound P (callE O)) {f : V} {args : List V} {uf : Value} {us : List Value} {v : V} {h' : H} (hf : RV w Pr β f uf) (hl : RL w Pr β args us) (he : calls P O f args h = some (v, h')) :
    ∃ K as bs, (do let d ← Deferred.ofValue uf us.toArray; invoke d.target d.args : Sem Next).run P w = .ok (.enter K bs.toArray) w ∧ RL w Pr β as bs ∧ callE O K as h = some (v, h') := by
  unfold calls at he
  unfold callArgs at he
  split at he
  · rename_i K a b
    simp only [Option.bind_some] at he
    cases hf with
    | fn va vb la lb ha hb =>
      have hr : RL w Pr β (a ++ args ++ b) (va ++ us ++ vb) := ((RL.append ⟨la, ha⟩ hl).append ⟨lb, hb⟩)
      refine ⟨K, _, _, ?_, hr, he⟩
      have := (hO K _ _ _ _ he).1
      simp [Deferred.ofValue, invoke, run_callFunc this]
  · rename_i name t v0
    cases hm : mthI P t name with
    | none => simp [hm] at he
    | some K =>
      simp only [hm, Option.map_some, Option.bind_some] at he
      cases hf with
      | mth u hu =>
        cases hu with
        | ifc hu =>
          rename_i u
          refine ⟨K, _, _, ?_, RL.cons hu hl, he⟩
          have := (hO K _ _ _ _ he).1
          obtain ⟨n, hn⟩ := depth_succ P
          have hm2 := (mthI_run hm n u w).1
          rw [← hn] at hm2
          simp [Deferred.ofValue, invoke, callMethod, hm2, run_callFunc this]
  · cases he


theorem flat_or {v : V} (hf : v.flat = true) : v.cells.all V.one = true ∨ ∃ cs, v = .agg cs := by
  cases v <;> simp [V.flat, V.one, V.cells] at hf ⊢ <;> exact hf

theorem op_cases {O : Orc} (hO : OSound P (callE O)) (hh : Hp P w Pr β h) {o : Oper} {ρ : Operand → V} {ev : Operand → Value} (hs : Stands w Pr β ρ ev) {v : V} {h' : H} (he : opE P O o ρ h = some (v, h')) :
    Quiet P o ev w Pr β v h' ∨ ∃ K args us, Goes P O o ev w Pr β h v h' K args us := by
  unfold opE at he
  split at he
  · -- move
    rename_i x heq
    injection he with he; injection he with e1 e2; subst e1 e2
    exact .inl (.val _ w β (by simp [execOp, heq]) (.refl ..) hh (hs x))
  · rename_i x heq
    injection he with he; injection he with e1 e2; subst e1 e2
    exact .inl (.val _ w β (by simp [execOp, heq]) (.refl ..) hh (hs x))
  · -- pick
    rename_i c x y heq
    cases hc : asB (ρ c) with
    | none => simp [hc] at he
    | some t =>
      simp only [hc, Option.map_some] at he
      injection he with he; injection he with e1 e2; subst e1 e2
      have h1 := asB_inv hc (hs c)
      refine .inl (.val (if t then ev x else ev y) w β (by simp [execOp, heq, h1, asBool]) (.refl ..) hh ?_)
      cases t
      · exact hs y
      · exact hs x
  · -- alloc
    rename_i t heq
    cases hti : tyI P t with
    | none => simp [hti] at he
    | some ti =>
      obtain ⟨i, d, z, hi, hd, hz, htd, hsz, _, hzero, _⟩ := tyI_spec hti
      simp only [hti, Option.bind_some] at he
      split at he
      · rename_i hl
        injection he with he; injection he with e1 e2; subst e1 e2
        have hr : RL w Pr β ti.zero z.cells.toList := by rw [hzero]; exact .zero z
        obtain ⟨g1, g2, g3⟩ := allocOne hh (t := t) (cs := ti.zero) (z := z) (by rw [hl, hsz, szT_of hi]) hr
        exact .inl (.val _ _ _ (by simp only [execOp, heq]; exact run_val (run_alloc' hi hz)) g1 g2 g3)
      · cases he
  · -- box
    rename_i t x heq
    cases hti : tyI P t with
    | none => simp [hti] at he
    | some ti =>
      obtain ⟨i, d, z, hi, hd, hz, htd, hsz, _, hzero, _⟩ := tyI_spec hti
      simp only [hti, Option.bind_some] at he
      split at he
      · rename_i hl
        injection he with he; injection he with e1 e2; subst e1 e2
        have hr : RL w Pr β (ρ x).cells (ev x).cells.toList := (hs x).cells (flat_or hl.1)
        obtain ⟨g1, g2, g3⟩ := allocOne hh (t := t) (cs := (ρ x).cells) (z := ev x) (by rw [hl.2, hsz, szT_of hi]) hr
        exact .inl (.val _ _ _ (by simp only [execOp, heq]; exact run_val run_box') g1 g2 g3)
      · cases he
  · -- build
    rename_i t parts heq
    cases hb : buildE P t (parts.toList.map fun p => (p.1, ρ p.2)) with
    | none => simp [hb] at he
    | some v0 =>
      simp only [hb, Option.map_some] at he
      injection he with he; injection he with e1 e2; subst e1 e2
      obtain ⟨r, h1, h2⟩ := buildE_sound (P := P) (w := w) (fun p _ => hs p.2) hb
      exact .inl (.val r w β (by simp only [execOp, heq]; exact run_val h1) (.refl ..) hh h2)
  · -- buildSlice
    rename_i t n parts heq
    obtain ⟨r, w', β', h1, h2, h3, h4⟩ := bslE_sound hh (fun p _ => hs p.2) he
    exact .inl (.val r w' β' (by simp only [execOp, heq]; exact run_val h1) h2 h3 h4)
  · -- insert
    rename_i t m k x heq
    cases hb : updE P t (ρ m) (ρ k) (ρ x) h with
    | none => simp [hb] at he
    | some v0 =>
      simp only [hb, Option.map_some] at he
      injection he with he; injection he with e1 e2; subst e1 e2
      obtain ⟨w', h1, h2, h3⟩ := updE_sound hh (hs m) (hs k) (hs x) hb
      exact .inl (.skip w' (by simp only [execOp, heq]; exact run_unit h1) h2 h3 rfl)
  · rename_i t m k x heq
    cases hb : updE P t (ρ m) (ρ k) (ρ x) h with
    | none => simp [hb] at he
    | some v0 =>
      simp only [hb, Option.map_some] at he
      injection he with he; injection he with e1 e2; subst e1 e2
      obtain ⟨w', h1, h2, h3⟩ := updE_sound hh (hs m) (hs k) (hs x) hb
      exact .inl (.skip w' (by simp only [execOp, heq]; exact run_unit h1) h2 h3 rfl)
  · rename_i t m k heq
    obtain ⟨r, w', h1, h2, h3, h4⟩ := entE_sound hh (hs m) (hs k) he
    exact .inl (.val r w' β (by simp only [execOp, heq]; exact run_val h1) h2 h3 h4)
  · rename_i t m st x heq
    cases hb : estE (ρ m) (ρ st) (ρ x) h with
    | none => simp [hb] at he
    | some v0 =>
      simp only [hb, Option.map_some] at he
      injection he with he; injection he with e1 e2; subst e1 e2
      obtain ⟨w', h1, h2, h3⟩ := estE_sound hh (t := t) (hs m) (hs st) (hs x) hb
      exact .inl (.skip w' (by simp only [execOp, heq]; exact run_unit h1) h2 h3 rfl)
  · -- load
    rename_i t x heq
    cases hb : loadE P t (ρ x) h with
    | none => simp [hb] at he
    | some v0 =>
      simp only [hb, Option.map_some] at he
      injection he with he; injection he with e1 e2; subst e1 e2
      obtain ⟨r, h1, h2⟩ := loadE_sound hh (hs x) hb
      exact .inl (.val r w β (by simp only [execOp, heq]; exact run_val h1) (.refl ..) hh h2)
  · -- store
    rename_i t x y heq
    cases hb : storeE P t (ρ x) (ρ y) h with
    | none => simp [hb] at he
    | some v0 =>
      simp only [hb, Option.map_some] at he
      injection he with he; injection he with e1 e2; subst e1 e2
      obtain ⟨w', h1, h2, h3⟩ := storeE_sound hh (hs x) (hs y) hb
      exact .inl (.skip w' (by simp only [execOp, heq]; exact run_unit h1) h2 h3 rfl)
  · -- nilCheck
    rename_i x heq
    split at he
    · rename_i i j k hx
      injection he with he; injection he with e1 e2; subst e1 e2
      have hr := hs x
      rw [hx] at hr
      obtain ⟨b, sz, hb, hu⟩ := hr.ptr_inv
      exact .inl (.val (ev x) w β (by simp [execOp, heq, hu]) (.refl ..) hh hr)
    · rename_i cs hx
      injection he with he; injection he with e1 e2; subst e1 e2
      have hr := hs x
      rw [hx] at hr
      obtain ⟨b, o', us, hu, _⟩ := hr.ep_inv
      exact .inl (.val (ev x) w β (by simp [execOp, heq, hu]) (.refl ..) hh hr)
    · rename_i t v0 hx
      injection he with he; injection he with e1 e2; subst e1 e2
      have hr := hs x
      rw [hx] at hr
      refine .inl (.val (ev x) w β ?_ (.refl ..) hh hr)
      generalize hgen : ev x = u at *
      cases hr with
      | ifc hu => simp [execOp, heq, hgen]
    · rename_i f a b hx
      injection he with he; injection he with e1 e2; subst e1 e2
      have hr := hs x
      rw [hx] at hr
      refine .inl (.val (ev x) w β ?_ (.refl ..) hh hr)
      generalize hgen : ev x = u at *
      cases hr with
      | fn va vb la lb ha hb => simp [execOp, heq, hgen]
    · rename_i name t v0 hx
      cases hm : mthI P t name with
      | none => simp [hm] at he
      | some K =>
        simp only [hm, Option.map_some] at he
        injection he with he; injection he with e1 e2; subst e1 e2
        have hr := hs x
        rw [hx] at hr
        refine .inl (.val (ev x) w β ?_ (.refl ..) hh hr)
        generalize hgen : ev x = u at *
        cases hr with
        | mth u hu =>
          cases hu with
          | ifc hu =>
            obtain ⟨n, hn⟩ := depth_succ P
            rename_i u
            have hm2 := (mthI_run hm n u w).2
            rw [← hn] at hm2
            simp [execOp, heq, hgen, hm2]
    · cases he
  · -- binOp
    rename_i op t x y _ heq
    cases hb : binE P op t (ρ x) (ρ y) with
    | none => simp [hb] at he
    | some v0 =>
      simp only [hb, Option.map_some] at he
      injection he with he; injection he with e1 e2; subst e1 e2
      obtain ⟨r, h1, h2⟩ := binE_sound (hs x) (hs y) hb x y
      exact .inl (.val r w β (by simp only [execOp, heq]; exact run_val h1) (.refl ..) hh h2)
  · -- unOp
    rename_i op _ x heq
    cases hb : unE op (ρ x) with
    | none => simp [hb] at he
    | some v0 =>
      simp only [hb, Option.map_some] at he
      injection he with he; injection he with e1 e2; subst e1 e2
      obtain ⟨r, h1, h2⟩ := unE_sound (P := P) (hs x) hb
      exact .inl (.val r w β (by simp only [execOp, heq]; exact run_val h1) (.refl ..) hh h2)
  · -- convert
    rename_i s d x heq
    split at he
    · rename_i hsrc
      cases hb : convE P d (ρ x) with
      | none => simp [hb] at he
      | some v0 =>
        simp only [hb, Option.map_some] at he
        injection he with he; injection he with e1 e2; subst e1 e2
        obtain ⟨r, h1, h2⟩ := convE_sound hsrc (hs x) hb
        exact .inl (.val r w β (by simp only [execOp, heq]; exact run_val h1) (.refl ..) hh h2)
    · cases he
  · -- makeInterface
    rename_i t x heq
    split at he
    · cases he
    · rename_i hif
      injection he with he; injection he with e1 e2; subst e1 e2
      refine .inl (.val (.iface t (ev x)) w β ?_ (.refl ..) hh (.ifc (hs x)))
      simp only [execOp, heq]
      refine run_val ?_
      unfold isIface at hif
      cases hu : P.underlying t with
      | none => simp [hu] at hif
      | some d => cases d <;> simp [hu] at hif <;> simp [Instr.makeInterface, run_underlying hu]
  · -- makeFunc
    rename_i f a b heq
    injection he with he; injection he with e1 e2; subst e1 e2
    have ha := hs.list a.toList
    have hb := hs.list b.toList
    refine .inl (.val _ w β ?_ (.refl ..) hh (.fn _ _ ha.1 hb.1 ha.2 hb.2))
    simp [execOp, heq, Instr.makeFunc]
    constructor
    · rw [← Array.toList_map]
    · rw [← Array.toList_map]
  · rename_i name a b heq
    split at he
    · rename_i r h1 h2
      injection he with he; injection he with e1 e2; subst e1 e2
      obtain ⟨x, hx, hr⟩ : ∃ x, a.toList = [x] ∧ ρ x = r := by
        cases ha : a.toList with
        | nil => simp [ha] at h1
        | cons x l =>
          cases l with
          | nil => exact ⟨x, rfl, by simpa [ha] using h1⟩
          | cons y l => simp [ha] at h1
      have hxa : a = #[x] := by rw [← Array.toArray_toList (xs := a), hx]
      have hxb : b = #[] := by rw [← Array.toArray_toList (xs := b), h2]
      subst hr
      exact .inl (.val _ w β (by simp [execOp, heq, Instr.makeFunc, hxa, hxb]) (.refl ..) hh (.mth _ (hs x)))
    · cases he
  · -- makeMap
    rename_i t heq
    injection he with he; injection he with e1 e2; subst e1 e2
    have := hh.alloc (.map #[] 0) 0 (.map [] 0) ⟨#[], [], heap_alloc_new .., .refl _, rfl, by simp, by simp, fun k e hk => by simp at hk⟩
    exact .inl (.val _ _ _ (by simp only [execOp, heq]; exact run_val (by simp [Instr.makeMap])) (Ext.alloc hh _ 0) this (.mp (beta_new hh _)))
  · -- makeSlice
    rename_i t l c heq
    obtain ⟨r, w', β', h1, h2, h3, h4⟩ := mkSlE_sound hh (hs l) (hs c) he
    exact .inl (.val r w' β' (by simp only [execOp, heq]; exact run_val h1) h2 h3 h4)
  · -- slice
    rename_i t x lo hi heq
    cases hb : slcE P t (ρ x) (lo.map ρ) (hi.map ρ) h with
    | none => simp [hb] at he
    | some v0 =>
      simp only [hb, Option.map_some] at he
      injection he with he; injection he with e1 e2; subst e1 e2
      obtain ⟨r, h1, h2⟩ := slcE_sound hh (hs x) (fun y _ => hs y) (fun y _ => hs y) hb
      exact .inl (.val r w β (by simp only [execOp, heq]; exact run_val h1) (.refl ..) hh h2)
  · -- fieldAddr
    rename_i t x f heq
    cases hb : fldAE P t (ρ x) f with
    | none => simp [hb] at he
    | some v0 =>
      simp only [hb, Option.map_some] at he
      injection he with he; injection he with e1 e2; subst e1 e2
      obtain ⟨r, h1, h2⟩ := fldAE_sound (hs x) hb
      exact .inl (.val r w β (by simp only [execOp, heq]; exact run_val h1) (.refl ..) hh h2)
  · rename_i t x f heq
    cases hb : fldE P t (ρ x) f with
    | none => simp [hb] at he
    | some v0 =>
      simp only [hb, Option.map_some] at he
      injection he with he; injection he with e1 e2; subst e1 e2
      obtain ⟨r, h1, h2⟩ := fldE_sound (hs x) hb
      exact .inl (.val r w β (by simp only [execOp, heq]; exact run_val h1) (.refl ..) hh h2)
  · rename_i t x i heq
    cases hb : idxE P t (ρ x) (ρ i) h with
    | none => simp [hb] at he
    | some v0 =>
      simp only [hb, Option.map_some] at he
      injection he with he; injection he with e1 e2; subst e1 e2
      obtain ⟨r, h1, h2⟩ := idxE_sound hh (hs x) (hs i) hb
      exact .inl (.val r w β (by simp only [execOp, heq]; exact run_val h1) (.refl ..) hh h2)
  · rename_i t x i heq
    cases hb : ixE P t (ρ x) (ρ i) with
    | none => simp [hb] at he
    | some v0 =>
      simp only [hb, Option.map_some] at he
      injection he with he; injection he with e1 e2; subst e1 e2
      obtain ⟨r, h1, h2⟩ := ixE_sound (hs x) (hs i) hb
      exact .inl (.val r w β (by simp only [execOp, heq]; exact run_val h1) (.refl ..) hh h2)
  · rename_i t m k ok heq
    cases hb : lkpE P t (ρ m) (ρ k) ok h with
    | none => simp [hb] at he
    | some v0 =>
      simp only [hb, Option.map_some] at he
      injection he with he; injection he with e1 e2; subst e1 e2
      obtain ⟨r, h1, h2⟩ := lkpE_sound hh (hs m) (hs k) hb
      exact .inl (.val r w β (by simp only [execOp, heq]; exact run_val h1) (.refl ..) hh h2)
  · -- range
    rename_i t x heq
    cases hti : tyI P t with
    | none => simp [hti] at he
    | some ti =>
      obtain ⟨i, d, z, hi, hd, hz, htd, _⟩ := tyI_spec hti
      simp only [hti, Option.bind_some] at he
      split at he
      · rename_i s hst hx
        rw [htd] at hst
        rw [td_str hst] at hd
        injection he with he; injection he with e1 e2; subst e1 e2
        have hr := hs x
        rw [hx] at hr
        have hu := hr.sc_inv
        have := hh.alloc (.stringIter s 0) 0 (.str s 0) (heap_alloc_new ..)
        exact .inl (.val _ _ _ (by simp only [execOp, heq]; exact run_val (by simp [Instr.range, run_underlying hd, hu])) (Ext.alloc hh _ 0) this (.it (beta_new hh _)))
      · cases he
  · -- next
    rename_i x heq
    split at he
    · rename_i i hx
      have hr := hs x
      rw [hx] at hr
      split at he
      · rename_i s p hi
        generalize hgen : ev x = u at *
        cases hr with
        | it hb =>
          rename_i b sz
          have hw : w.heap[b]? = some (.stringIter s p) := hh.blk i _ b sz hi hb
          have hlt : b < w.heap.size := hh.lt i b sz hb
          split at he
          · rename_i hp
            injection he with he; injection he with e1 e2; subst e1 e2
            have hk : ∀ k, k ≠ b → (w.heap.setIfInBounds b (.stringIter s (p + (Utf8.decode s p).2)))[k]? = w.heap[k]? := fun k hk => Array.getElem?_setIfInBounds_ne (Ne.symm hk)
            have hss : (w.heap.setIfInBounds b (.stringIter s (p + (Utf8.decode s p).2)))[b]? = some (.stringIter s (p + (Utf8.decode s p).2)) := by simp [Array.getElem?_setIfInBounds, hlt]
            have e : Ext w Pr β { w with heap := w.heap.setIfInBounds b (.stringIter s (p + (Utf8.decode s p).2)) } Pr β := Ext.write hb (by simp) rfl rfl rfl hk (fun cs' t fz hcs => by
              rw [hss] at hcs
              injection hcs with hcs
              cases hcs)
            refine .inl (.val (.tuple #[.bool true, goInt p, .int .i32 (Utf8.decode s p).1]) _ β ?_ e (hh.write hb hi (by simp) e (by simp) hk hss) ?_)
            · simp only [execOp, heq]
              exact run_val (by simp [Instr.next, hgen, getObj, setObj, Sem.run, hw, hp])
            · exact RV.mk_tup (RL.cons (RV.mk_sc _) (RL.cons (RV.mk_sc _) (RL.cons (RV.mk_sc _) .nil)))
          · rename_i hp
            injection he with he; injection he with e1 e2; subst e1 e2
            refine .inl (.val (.tuple #[.bool false]) w β ?_ (.refl ..) hh (RV.mk_tup (RL.cons (RV.mk_sc _) .nil)))
            simp only [execOp, heq]
            exact run_val (by simp [Instr.next, hgen, getObj, setObj, Sem.run, hw, hp])
      · cases he
    · cases he
  · -- extract
    rename_i x i heq
    split at he
    · rename_i vs hx
      have hr := hs x
      rw [hx] at hr
      obtain ⟨us, hu, hl⟩ := hr.tup_inv
      cases hv : vs[i]? with
      | none => simp [hv] at he
      | some v0 =>
        simp only [hv, Option.map_some] at he
        injection he with he; injection he with e1 e2; subst e1 e2
        obtain ⟨r, h1, h2⟩ := hl.get hv
        refine .inl (.val r w β ?_ (.refl ..) hh h2)
        simp only [execOp, heq]
        exact run_val (by simp [Instr.extract, hu, h1])
    · cases he
  · -- call value
    rename_i f args ats heq
    obtain ⟨K, as, bs, h1, h2, h3⟩ := calls_goes hO (hs f) (hs.list args.toList) he
    refine .inr ⟨K, as, bs, ?_, h2, h3⟩
    rw [← h1]
    simp [execOp, heq, resolve, ← Array.toList_map]
  · -- invoke
    rename_i r name args ats heq
    obtain ⟨K, as, bs, h1, h2, h3⟩ := calls_goes hO (f := .mth name (ρ r)) (uf := .func (.method name) #[ev r] #[]) (.mth _ (hs r)) (hs.list args.toList) he
    refine .inr ⟨K, as, bs, ?_, h2, h3⟩
    rw [← h1]
    simp [execOp, heq, resolve, Deferred.ofValue, ← Array.toList_map]
  · -- len
    rename_i args ats heq
    split at he
    · rename_i x t hx ht
      cases hb : lenE P t (ρ x) h with
      | none => simp [hb] at he
      | some v0 =>
        simp only [hb, Option.map_some] at he
        injection he with he; injection he with e1 e2; subst e1 e2
        obtain ⟨r, h1, h2⟩ := lenE_sound hh (ty := o.type) (hs x) hb
        have hxa : args = #[x] := by rw [← Array.toArray_toList (xs := args), hx]
        have hta : ats = #[t] := by rw [← Array.toArray_toList (xs := ats), ht]
        exact .inl (.val r w β (by simp [execOp, heq, resolve, invoke, builtin, hxa, hta, h1]) (.refl ..) hh h2)
    · cases he
  · -- append
    rename_i args ats heq
    split at he
    · rename_i x y t t2 hx ht
      obtain ⟨r, w', β', h1, h2, h3, h4⟩ := appE_sound hh (ty := o.type) (hs x) (hs y) he
      have hxa : args = #[x, y] := by rw [← Array.toArray_toList (xs := args), hx]
      have hta : ats = #[t, t2] := by rw [← Array.toArray_toList (xs := ats), ht]
      exact .inl (.val r w' β' (by simp [execOp, heq, resolve, invoke, builtin, hxa, hta, h1]) h2 h3 h4)
    · cases he
  · -- min
    rename_i args ats heq
    cases hb : mmE false (args.toList.map ρ) with
    | none => simp [hb] at he
    | some v0 =>
      simp only [hb, Option.map_some] at he
      injection he with he; injection he with e1 e2; subst e1 e2
      obtain ⟨r, h1, h2⟩ := mmE_sound (P := P) (hs.list args.toList) hb ats o.type
      simp only [Bool.false_eq_true, if_false, ← Array.toList_map, Array.toArray_toList] at h1
      exact .inl (.val r w β (by simp [execOp, heq, resolve, invoke, builtin, h1]) (.refl ..) hh h2)
  · rename_i args ats heq
    cases hb : mmE true (args.toList.map ρ) with
    | none => simp [hb] at he
    | some v0 =>
      simp only [hb, Option.map_some] at he
      injection he with he; injection he with e1 e2; subst e1 e2
      obtain ⟨r, h1, h2⟩ := mmE_sound (P := P) (hs.list args.toList) hb ats o.type
      simp only [if_true, ← Array.toList_map, Array.toArray_toList] at h1
      exact .inl (.val r w β (by simp [execOp, heq, resolve, invoke, builtin, h1]) (.refl ..) hh h2)
  · -- delete
    rename_i args ats heq
    split at he
    · rename_i m k l t l2 hx ht
      cases hb : delE P t (ρ m) (ρ k) h with
      | none => simp [hb] at he
      | some v0 =>
        simp only [hb, Option.map_some] at he
        injection he with he; injection he with e1 e2; subst e1 e2
        have a0 : args[0]? = some m := by rw [← Array.getElem?_toList, hx]; rfl
        have a1 : args[1]? = some k := by rw [← Array.getElem?_toList, hx]; rfl
        have t0 : ats[0]? = some t := by rw [← Array.getElem?_toList, ht]; rfl
        obtain ⟨w', h1, h2, h3⟩ := delE_sound hh (t2 := t) (ty := o.type) (hs m) (hs k) hb ats t0 (args.map ev) (by simp [a0]) (by simp [a1])
        exact .inl (.val _ w' β (by simp [execOp, heq, resolve, invoke, builtin, h1]) h2 h3 (RV.mk_tup .nil))
    · cases he
  · cases he

end
end Go.Ab
