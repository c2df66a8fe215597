/- An evaluator of the program over states of which some values are told, and that what it says the program does. -/
import Derived.Test.YthbnhmmdafkcfaaGreatEngE
import Derived.WideShapes
set_option linter.unusedVariables false
set_option linter.unusedSimpArgs false
namespace Go.Ab

section
variable {P : Program} {w : World} {Pr : Nat → Prop} {β : Bt}

/-- An argument, out of its cells' trees. -/
def argV (P : Program) (t : TypeId) (ts : List T) : V := if aggT P t then .agg (ts.map .tr) else match ts with | [x] => .tr x | _ => .dead

theorem one_cells {v : Value} (h : ∀ cs, v ≠ .agg cs) : v.cells.toList = [v] := by
  cases v <;> simp_all [Value.cells]

theorem arg_tree {H : Type} {enc : TypeId × Value → H} {base : Nat} {spare : Nat → Bool} {held : Bool} {r : Reach} {b0 n : Nat} {t : TypeId} {v : Value} {d : DataW H} {ps : List MemPlace} (hPr : ∀ b, b < w.heap.size → Pr b)
    (hp : plainT P n t = true) (hsz : aggT P t = false → szT P t = 1) (hv : Value.okWide P w r b0 t v) (ht : DataW.Trod enc P w base spare held t v d ps) : ∃ ts, WfT P n t ts ∧ RV w Pr β (argV P t ts) v := by
  obtain ⟨fuel, ht⟩ := ht
  have agg : aggT P t = true → (∃ cs, v = .agg cs ∧ cs.size = P.cellsOf t) → ∃ ts, WfT P n t ts ∧ RV w Pr β (argV P t ts) v := fun ha ⟨cs, hvc, hcs⟩ => by
    subst hvc
    obtain ⟨ts, h1, h2⟩ := trod_wf hPr n fuel t _ d ps hp (by simp [Value.cells, hcs, cellsOf_szT]) ht
    refine ⟨ts, h2, ?_⟩
    unfold argV
    rw [if_pos ha]
    simpa [Value.cells] using RV.mk_agg h1
  have one : aggT P t = false → (∀ cs, v ≠ .agg cs) → ∃ ts, WfT P n t ts ∧ RV w Pr β (argV P t ts) v := fun ha hn => by
    rw [one_cells hn] at ht
    obtain ⟨ts, h1, h2⟩ := trod_wf hPr n fuel t _ d ps hp (by rw [hsz ha]; rfl) ht
    refine ⟨ts, h2, ?_⟩
    have hl := h1.1
    simp at hl
    obtain ⟨x, rfl⟩ := List.length_eq_one_iff.1 hl.symm
    have ha' : ¬ aggT P t = true := by rw [ha]; simp
    unfold argV
    rw [if_neg ha']
    exact h1.2 0 _ _ rfl rfl
  cases hd : P.underlying t with
  | none =>
    cases n with
    | zero => cases hp
    | succ n => unfold plainT at hp; rw [hd] at hp; cases hp
  | some d0 =>
    simp only [Value.okWide, hd] at hv
    cases d0 with
    | struct fs => obtain ⟨cs, h1, h2, _⟩ := hv; exact agg (by simp [aggT, hd, aggD]) ⟨cs, h1, h2⟩
    | array m e => obtain ⟨cs, h1, h2, _⟩ := hv; exact agg (by simp [aggT, hd, aggD]) ⟨cs, h1, h2⟩
    | _ =>
      refine one (by simp [aggT, hd, aggD]) fun cs h => ?_
      subst h
      simp [Cell.okWide, Cell.ok, hd] at hv

theorem hp_start (w : World) : Hp P w (fun b => b < w.heap.size) [] [] where
  len := rfl
  lt := fun i b sz h => by simp at h
  blk := fun i x b sz h => by simp at h
  inj := fun i i' b sz sz' h => by obtain ⟨x, hx, _⟩ := h; simp at hx
  prot := fun i b sz h => by simp at h
  plt := fun b h => h

/-- A law's call, by the evaluator. -/
theorem law_calls (hm : P.follows .mixedOrders = true) {X : Orc} (hX : OSound P X) {K : FuncId} {vs : List V} {us : List Value} {h' : H} (he : E P X K vs [] = some (bv true, h')) {W : World} (hl : RL W (fun b => b < W.heap.size) [] vs us) :
    Calls P K us.toArray W fun e W' => e = .returned (.bool true) ∧ RowKit.Below W.heap.size W W' := by
  refine Calls.mono ((E_sound hm hX K vs [] _ h' he).2 W _ [] us (hp_start W) hl) fun e W' hres => ?_
  obtain ⟨r, Pr', β', rfl, hext, _, hr⟩ := hres
  rw [hr.sc_inv]
  exact ⟨rfl, hext.os, hext.tape, hext.out, hext.size, fun k hk => hext.keep k hk fun i sz h => by simp at h⟩

theorem osound_none (P : Program) : OSound P (fun _ _ _ => none) := fun K args h v h' he => by cases he

end
end Go.Ab

set_option linter.unusedVariables false
set_option linter.unusedSimpArgs false
namespace Go.Ab

/-- Scalars' trees. -/
abbrev ti (n : Int) : T := .sc (.int .i64 n)
abbrev tb (b : Bool) : T := .sc (.bool b)
abbrev tS (s : ByteArray) : T := .sc (.string s)
def slT {α : Type} (sz : Nat) (enc : α → List T) : Option (List α) → T
  | none => .sc (.slice none 0 0)
  | some xs => .sl sz (xs.map enc)
def okI (n : Int) : Prop := (Lit.int .i64 n).wf = true
def okSl {α : Type} (ok : α → Prop) (x : Option (List α)) : Prop := ∀ xs, x = some xs → xs.length ≤ maxLen ∧ ∀ y ∈ xs, ok y

theorem dec_list {α : Type} {enc : α → List T} {ok : α → Prop} : ∀ (es : List (List T)), (∀ x ∈ es, ∃ y, x = enc y ∧ ok y) → ∃ ys : List α, es = ys.map enc ∧ ∀ y ∈ ys, ok y
  | [], _ => ⟨[], rfl, fun y h => by simp at h⟩
  | x :: es, h => by
    obtain ⟨y, rfl, hy⟩ := h x (by simp)
    obtain ⟨ys, rfl, hys⟩ := dec_list es fun z hz => h z (by simp [hz])
    exact ⟨y :: ys, rfl, fun z hz => by
      rcases List.mem_cons.1 hz with rfl | hz
      · exact hy
      · exact hys z hz⟩

section
variable {P : Program}
theorem dec_int {n : Nat} {t : TypeId} {ts : List T} (hu : P.underlying t = some (.int .i64)) (h : WfT P (n + 1) t ts) : ∃ x, ts = [ti x] ∧ okI x := by
  simp only [WfT, hu] at h
  exact h
theorem dec_bool {n : Nat} {t : TypeId} {ts : List T} (hu : P.underlying t = some .bool) (h : WfT P (n + 1) t ts) : ∃ x, ts = [tb x] := by
  simp only [WfT, hu] at h
  exact h
theorem dec_str {n : Nat} {t : TypeId} {ts : List T} (hu : P.underlying t = some .string) (h : WfT P (n + 1) t ts) : ∃ x, ts = [tS x] ∧ x.size ≤ maxLen := by
  simp only [WfT, hu] at h
  exact h
theorem dec_sl {α : Type} {enc : α → List T} {ok : α → Prop} {n sz : Nat} {t e : TypeId} {ts : List T} (hu : P.underlying t = some (.slice e)) (hsz : szT P e = sz) (he : ∀ x, WfT P n e x → ∃ y, x = enc y ∧ ok y) (h : WfT P (n + 1) t ts) :
    ∃ x, ts = [slT sz enc x] ∧ okSl ok x := by
  simp only [WfT, hu] at h
  rcases h with rfl | ⟨es, rfl, hl, hes⟩
  · exact ⟨none, rfl, fun xs h => by cases h⟩
  · obtain ⟨ys, rfl, hys⟩ := dec_list es fun x hx => he x (hes x hx).2
    exact ⟨some ys, by rw [hsz]; rfl, fun xs h => by injection h with h; subst h; exact ⟨by simpa using hl, hys⟩⟩
/-- A struct, field by field. -/
theorem dec_struct {n : Nat} {t : TypeId} {fs : Array Field} {ts : List T} (hu : P.underlying t = some (.struct fs)) (h : WfT P (n + 1) t ts) :
    ts.length = szT P t ∧ ∀ f ∈ fs.toList, WfT P n f.type ((ts.drop f.offset).take (szT P f.type)) := by
  simpa only [WfT, hu] using h
theorem dec_int_arr {n m : Nat} {t e : TypeId} {ts : List T} (hu : P.underlying t = some (.array m e)) (he : P.underlying e = some (.int .i64)) (hsz : szT P e = 1) (hsz' : szT P t = m) (h : WfT P (n + 2) t ts) :
    ∃ xs : List Int, ts = xs.map ti ∧ xs.length = m ∧ ∀ x ∈ xs, okI x := by
  unfold WfT at h
  rw [hu] at h
  dsimp only at h
  simp only [hsz, hsz', Nat.mul_one] at h
  obtain ⟨hl, hi⟩ := h
  obtain ⟨xs, h1, h2⟩ := skolem (p := fun i x => ts[i]? = some (ti x) ∧ okI x) m fun i him => by
    obtain ⟨x, hx, hk⟩ := dec_int he (hi i him)
    refine ⟨x, ?_, hk⟩
    have : ((ts.drop i).take 1)[0]? = some (ti x) := by rw [hx]; rfl
    simpa using this
  refine ⟨xs, ?_, h1, fun x hx => ?_⟩
  · apply List.ext_getElem?
    intro i
    rw [List.getElem?_map]
    cases hx : xs[i]? with
    | none =>
      have := List.getElem?_eq_none_iff.1 hx
      rw [List.getElem?_eq_none (by omega)]; rfl
    | some x => exact (h2 i x hx).1
  · obtain ⟨i, hi'⟩ := List.mem_iff_getElem?.1 hx
    exact (h2 i x hi').2
theorem take_drop_append {α : Type} {l : List α} {a b : Nat} (h : a + b ≤ l.length) : l.drop a = (l.drop a).take b ++ l.drop (a + b) := by
  rw [← List.drop_drop, List.take_append_drop]
end

end Go.Ab

set_option linter.unusedVariables false
set_option linter.unusedSimpArgs false
namespace Go.Ab

/-- The state behind a run. -/
def nextSt {a : Option (Ex × St)} {x : Ex} {s : St} (_ : a = some (x, s)) : St := s

theorem reach_done {h : H} : ∀ (n : Nat) (acc todo : List Nat), (∀ i ∈ todo, i ∈ acc) → reach h n acc todo = acc
  | 0, acc, todo, _ => by rw [reach]
  | n + 1, acc, [], _ => by rw [reach]
  | n + 1, acc, i :: rest, hm => by
    rw [reach, if_pos (hm i (by simp))]
    exact reach_done n acc rest fun j hj => hm j (by simp [hj])

theorem reach_range {h : H} {m : Nat} (hc : ∀ i, i < m → ∀ j ∈ ((h[i]?).map refsB).getD [], j < m) : ∀ (d k n : Nat) (rest : List Nat), k + d = m → d ≤ n → (∀ j ∈ rest, j < m) →
    reach h n (List.range k) (List.range' k d ++ rest) = List.range m
  | 0, k, n, rest, hk, _, hr => by
    have : k = m := by omega
    subst this
    exact reach_done _ _ _ fun i hi => by simp at hi; simpa using hr i hi
  | d + 1, k, 0, rest, hk, hn, hr => by omega
  | d + 1, k, n + 1, rest, hk, hn, hr => by
    rw [List.range'_succ, List.cons_append, reach, if_neg (by simp), List.append_assoc]
    have : List.range k ++ [k] = List.range (k + 1) := List.range_succ.symm
    rw [this]
    exact reach_range hc d (k + 1) n _ (by omega) (by omega) fun j hj => by
      rcases List.mem_append.1 hj with h1 | h1
      · exact hr j h1
      · exact hc k (by omega) j h1

theorem renB_id (f : Nat → Nat) (b : B) (h : ∀ i ∈ refsB b, f i = i) : renB f b = b := by
  cases b with
  | cells t es ex =>
    rw [renB]
    congr 1
    apply List.ext_getElem?
    intro j
    rw [List.getElem?_map]
    cases he : es[j]? with
    | none => rfl
    | some e => exact congrArg some (renL_id f e fun i hi => h i (List.mem_flatMap.2 ⟨e, List.mem_of_getElem? he, hi⟩))
  | map es c =>
    rw [renB]
    congr 1
    apply List.ext_getElem?
    intro j
    rw [List.getElem?_map]
    cases he : es[j]? with
    | none => rfl
    | some e => exact congrArg some (by dsimp only; rw [ren_id f e.2.1 fun i hi => h i (List.mem_flatMap.2 ⟨e, List.mem_of_getElem? he, hi⟩)])
  | str s p => rfl
  | gone => rfl

theorem place_range {m i : Nat} (h : i < m) : place (List.range m) i = i := by
  have := place_at (ids := List.range m) (i := i) (by simpa using h)
  have hl := (List.getElem?_eq_some_iff.1 this).1
  rw [List.getElem?_range (by simpa using hl)] at this
  injection this

/-- Behind a call nothing new is reached: what was there stays, the rest goes. -/
theorem gcE_closed {m : Nat} {v : V} {h : H} (hm : m ≤ 400) (hl : m ≤ h.length) (hc : ∀ i, i < m → ∀ b, h[i]? = some b → ∀ j ∈ refsB b, j < m) (hv : ∀ j ∈ refs v, j < m) : gcE m v h = some (v, h.take m) := by
  have hreach : reach h 400 [] (List.range m ++ refs v) = List.range m := by
    have := reach_range (h := h) (m := m) (fun i hi j hj => by
      cases hb : h[i]? with
      | none => rw [hb] at hj; simp at hj
      | some b => rw [hb] at hj; exact hc i hi b hb j (by simpa using hj)) m 0 400 (refs v) (by omega) hm hv
    have e0 : List.range 0 = [] := rfl
    rw [e0, ← List.range_eq_range'] at this
    exact this
  unfold gcE
  rw [hreach]
  dsimp only
  have h1 : inV (List.range m) v = true := List.all_eq_true.2 fun j hj => by simpa using hv j hj
  have h2 : (List.range m).all (fun i => inB (List.range m) ((h[i]?).getD .gone) && decide (i < h.length)) = true := List.all_eq_true.2 fun i hi => by
    have him := List.mem_range.1 hi
    have hlt : i < h.length := by omega
    rw [List.getElem?_eq_getElem hlt, Option.getD_some]
    simp only [Bool.and_eq_true, decide_eq_true_eq]
    exact ⟨List.all_eq_true.2 fun j hj => by simpa using hc i him _ (List.getElem?_eq_getElem hlt) j hj, hlt⟩
  have h3 : ((List.range m).take m == List.range m) = true := by
    rw [List.take_of_length_le (by simp)]; simp
  rw [h1, h2, h3]
  simp only [Bool.and_self, if_true]
  congr 2
  · exact ren_id _ _ fun i hi => place_range (hv i hi)
  · apply List.ext_getElem?
    intro k
    unfold Ab.sub
    rw [List.getElem?_map, List.getElem?_take]
    split
    · rename_i hk
      have hlt : k < h.length := by omega
      rw [List.getElem?_range hk, List.getElem?_eq_getElem hlt]
      simp only [Option.map_some, Option.getD_some]
      exact congrArg some (by rw [List.getElem?_eq_getElem hlt, Option.getD_some]; exact renB_id _ _ fun j hj => place_range (hc k hk _ (List.getElem?_eq_getElem hlt) j hj))
    · rename_i hk
      rw [List.getElem?_eq_none (by simp; omega)]
      rfl

end Go.Ab

set_option linter.unusedVariables false
set_option linter.unusedSimpArgs false
namespace Go.Ab

theorem sub_range {h : H} {n : Nat} (hl : n ≤ h.length) (hc : ∀ i, i < n → ∀ b, h[i]? = some b → ∀ j ∈ refsB b, j < n) : Ab.sub h (List.range n) = h.take n := by
  apply List.ext_getElem?
  intro k
  unfold Ab.sub
  rw [List.getElem?_map, List.getElem?_take]
  split
  · rename_i hk
    have hlt : k < h.length := by omega
    rw [List.getElem?_range hk, List.getElem?_eq_getElem hlt]
    simp only [Option.map_some]
    exact congrArg some (by rw [List.getElem?_eq_getElem hlt, Option.getD_some]; exact renB_id _ _ fun j hj => place_range (hc k hk _ (List.getElem?_eq_getElem hlt) j hj))
  · rename_i hk
    rw [List.getElem?_eq_none (by simp; omega)]
    rfl

theorem putAll_range {h h1 : H} {n : Nat} (hl : n ≤ h.length) (h1l : h1.length = n) : putAll h (List.range n) h1 = h1 ++ h.drop n := by
  apply List.ext_getElem?
  intro k
  rcases Nat.lt_or_ge k n with hk | hk
  · rw [putAll_at (List.range n) h1 h k k h1[k] List.nodup_range (List.getElem?_range hk) (List.getElem?_eq_getElem (by omega)) (by omega), List.getElem?_append_left (by omega)]
    exact (List.getElem?_eq_getElem (by omega)).symm
  · rw [putAll_other _ _ _ _ (by simp; omega), List.getElem?_append_right (by omega), List.getElem?_drop, h1l]
    congr 1
    omega

/-- A call that sees the first blocks, by the names that they have. -/
theorem callE_id {O : Orc} {K : FuncId} {args : List V} {h : H} {n : Nat} {v : V} {h1 : H} (hr : reach h 400 [] (refsL args) = List.range n) (hn : n ≤ h.length) (ha : ∀ i ∈ refsL args, i < n)
    (hb : ∀ i, i < n → ∀ b, h[i]? = some b → b.there = true ∧ ∀ j ∈ refsB b, j < n) (ho : O K args (h.take n) = some (v, h1)) (hl : h1.length = n) (hv : ∀ i ∈ refs v, i < n) (h1r : ∀ b ∈ h1, ∀ j ∈ refsB b, j < n) :
    callE O K args h = some (v, h1 ++ h.drop n) := by
  unfold callE
  dsimp only
  rw [hr]
  have c1 : args.all (inV (List.range n)) = true := List.all_eq_true.2 fun x hx => List.all_eq_true.2 fun j hj => by
    obtain ⟨k, hk⟩ := List.mem_iff_getElem?.1 hx
    simpa using ha j (refsL_mem hk hj)
  have c2 : (List.range n).all (fun i => inB (List.range n) ((h[i]?).getD .gone) && B.there ((h[i]?).getD .gone)) = true := List.all_eq_true.2 fun i hi => by
    have hin := List.mem_range.1 hi
    have hlt : i < h.length := by omega
    rw [List.getElem?_eq_getElem hlt, Option.getD_some]
    obtain ⟨h2, h3⟩ := hb i hin _ (List.getElem?_eq_getElem hlt)
    simp only [Bool.and_eq_true]
    exact ⟨List.all_eq_true.2 fun j hj => by simpa using h3 j hj, h2⟩
  rw [c1, c2, renL_id _ args fun i hi => place_range (ha i hi), sub_range hn fun i hi b hb' => (hb i hi b hb').2, ho]
  have out : ∀ i, i < n → outer h (List.range n) i = i := fun i hi => by simp [outer, List.getElem?_range hi]
  simp only [Bool.and_self, if_true, Option.bind_some, List.length_range, hl, Nat.le_refl]
  rw [ren_id _ v fun i hi => out i (hv i hi), List.take_of_length_le (by omega), List.drop_eq_nil_of_le (by omega), List.map_nil, List.append_nil]
  have hmap : h1.map (renB (outer h (List.range n))) = h1 := by
    conv => rhs; rw [← List.map_id h1]
    exact List.map_congr_left fun b hb' => renB_id _ _ fun j hj => out j (h1r b hb' j hj)
  rw [hmap, putAll_range hn hl]

end Go.Ab

set_option linter.unusedVariables false
set_option linter.unusedSimpArgs false
namespace Go.Ab

/-! ### more fuel, the same answer: a call by a run of the kernel -/
def LeO (O O' : Orc) : Prop := ∀ K args h r, O K args h = some r → O' K args h = some r
def LeF (f f' : St → Option (Ex × St)) : Prop := ∀ s r, f s = some r → f' s = some r

section
variable {P : Program} {O O' : Orc}

theorem callE_le (hO : LeO O O') {K : FuncId} {args : List V} {h : H} {r : V × H} (he : callE O K args h = some r) : callE O' K args h = some r := by
  unfold callE at he ⊢
  dsimp only at he ⊢
  split at he
  · rename_i hc
    cases hk : O K (renL (place (reach h 400 [] (refsL args))) args) (Ab.sub h (reach h 400 [] (refsL args))) with
    | none => rw [hk] at he; cases he
    | some q =>
      rw [hk] at he
      rw [if_pos hc, hO _ _ _ _ hk]
      exact he
  · cases he

theorem calls_le (hO : LeO O O') {f : V} {args : List V} {h : H} {r : V × H} (he : calls P O f args h = some r) : calls P O' f args h = some r := by
  unfold calls at he ⊢
  cases hc : callArgs P f args with
  | none => rw [hc] at he; cases he
  | some c =>
    rw [hc] at he
    exact callE_le hO he

theorem opE_le (hO : LeO O O') {o : Oper} {ρ : Operand → V} {h : H} {r : V × H} (he : opE P O o ρ h = some r) : opE P O' o ρ h = some r := by
  unfold opE at he ⊢
  cases hop : o.op with
  | call c =>
    obtain ⟨callee, args, ats⟩ := c
    rw [hop] at he
    cases callee with
    | value f => exact calls_le hO he
    | invoke r name => exact calls_le hO he
    | builtin b => cases b <;> exact he
  | makeFunc f a b => rw [hop] at he; cases f <;> exact he
  | makeMap t r => rw [hop] at he; cases r <;> exact he
  | next x s => rw [hop] at he; cases s <;> exact he
  | slice t x lo hi mx => rw [hop] at he; cases mx <;> exact he
  | _ => rw [hop] at he; exact he

theorem runE_le (hO : LeO O O') {ops : Array Oper} : ∀ (l : List Oper) (s s' : St), runE P O ops l s = some s' → runE P O' ops l s = some s' := by
  intro l
  induction l with
  | nil => intro s s' he; exact he
  | cons o l ih =>
    intro s s' he
    unfold runE stepE at he ⊢
    cases hw : wantE ops o s.tm with
    | none => rw [hw] at he; cases he
    | some b =>
      rw [hw] at he
      simp only [Option.bind_some] at he ⊢
      cases b with
      | false =>
        simp only [Bool.false_eq_true, if_false, Option.bind_some] at he ⊢
        exact ih _ _ he
      | true =>
        simp only [if_true] at he ⊢
        cases hop : opE P O o s.ev s.h with
        | none => rw [hop] at he; cases he
        | some r =>
          rw [hop] at he
          rw [opE_le hO hop]
          simp only [Option.map_some, Option.bind_some] at he ⊢
          exact ih _ _ he

theorem drawE_le (hO : LeO O O') {ops : Array Oper} {bs : List Nat} : ∀ (l : List Oper) (k : Nat) (rs ms : List (Nat × Foot)) (s s' : St), drawE P O ops bs l k rs ms s = some s' → drawE P O' ops bs l k rs ms s = some s' := by
  intro l
  induction l with
  | nil => intro k rs ms s s' he; exact he
  | cons o l ih =>
    intro k rs ms s s' he
    unfold drawE at he ⊢
    cases hw : wantE ops o s.tm with
    | none => rw [hw] at he; cases he
    | some b =>
      rw [hw] at he
      simp only [Option.bind_some] at he ⊢
      cases b with
      | false =>
        simp only [Bool.false_eq_true, if_false] at he ⊢
        exact ih _ _ _ _ _ he
      | true =>
        simp only [if_true] at he ⊢
        split at he
        · rename_i hc
          rw [if_pos hc]
          cases hop : opE P O o s.ev s.h with
          | none => rw [hop] at he; cases he
          | some r =>
            rw [hop] at he
            rw [opE_le hO hop]
            simp only [Option.bind_some] at he ⊢
            exact ih _ _ _ _ _ he
        · cases he

theorem regE_le (hO : LeO O O') {ops : Array Oper} {draw : Bool} {s s' : St} (he : regE P O ops draw s = some s') : regE P O' ops draw s = some s' := by
  unfold regE at he ⊢
  cases draw with
  | false => simp only [Bool.false_eq_true, if_false] at he ⊢; exact runE_le hO _ _ _ he
  | true =>
    simp only [if_true] at he ⊢
    split at he
    · rename_i hok
      rw [if_pos hok]
      exact drawE_le hO _ _ _ _ _ _ he
    · rename_i hok
      rw [if_neg hok]
      obtain ⟨n, hn⟩ := ndE_ev (On := fun _ => O') (fun K args h r hr => Ev.of fun _ => hO K args h r hr) he
      exact hn n (Nat.le_refl _)

theorem iter_le {f f' : St → Option (Ex × St)} (hf : LeF f f') : ∀ (n m : Nat), n ≤ m → LeF (iter n f) (iter m f') := by
  intro n
  induction n with
  | zero => intro m hm s r he; cases he
  | succ n ih =>
    intro m hm s r he
    obtain ⟨m, rfl⟩ : ∃ k, m = k + 1 := ⟨m - 1, by omega⟩
    unfold iter at he ⊢
    cases h1 : f s with
    | none => rw [h1] at he; cases he
    | some q =>
      obtain ⟨ex, s1⟩ := q
      rw [h1] at he
      rw [hf s _ h1]
      simp only [Option.bind_some] at he ⊢
      cases ex with
      | normal => exact ih m (by omega) _ _ he
      | exit id => exact he
      | ret => exact he

theorem evC_le (hO : LeO O O') {n m : Nat} (hnm : n ≤ m) : ∀ (c : Code), LeF (evC P O (iter n) c) (evC P O' (iter m) c) := by
  intro c
  induction c with
  | skip => intro s r he; exact he
  | region id ops draw =>
    intro s r he
    unfold evC at he ⊢
    obtain ⟨s1, h1, h2⟩ := Option.map_eq_some_iff.1 he
    rw [regE_le hO h1]
    simp [h2]
  | seq x y ihx ihy =>
    intro s r he
    unfold evC at he ⊢
    cases hx : evC P O (iter n) x s with
    | none => rw [hx] at he; cases he
    | some q =>
      obtain ⟨ex, s1⟩ := q
      rw [hx] at he
      rw [ihx _ _ hx]
      simp only [Option.bind_some] at he ⊢
      cases ex with
      | normal => exact ihy _ _ he
      | exit id => exact he
      | ret => exact he
  | cond c x y ihx ihy =>
    intro s r he
    unfold evC at he ⊢
    cases hc : asB (s.ev c) with
    | none => rw [hc] at he; cases he
    | some t =>
      rw [hc] at he
      simp only [Option.bind_some] at he ⊢
      cases t with
      | true => exact ihx _ _ he
      | false => exact ihy _ _ he
  | block id x ih =>
    intro s r he
    unfold evC at he ⊢
    obtain ⟨q, h1, h2⟩ := Option.map_eq_some_iff.1 he
    rw [ih _ _ h1]
    simp [← h2]
  | loop x ih =>
    intro s r he
    unfold evC at he ⊢
    exact iter_le ih n m hnm s r he
  | exit id => intro s r he; exact he
  | ret => intro s r he; exact he
  | _ => intro s r he; simp [evC] at he

theorem evF_le (hO : LeO O O') {n m : Nat} (hnm : n ≤ m) {K : FuncId} {args : List V} {h : H} {r : V × H} (he : evF P O (iter n) K args h = some r) : evF P O' (iter m) K args h = some r := by
  unfold evF at he ⊢
  cases hf : P.funcs[K]? with
  | none => rw [hf] at he; cases he
  | some f =>
    rw [hf] at he
    simp only [Option.bind_some] at he ⊢
    cases hb : f.body with
    | none => rw [hb] at he; cases he
    | some c =>
      rw [hb] at he
      simp only [Option.bind_some] at he ⊢
      split at he
      · cases he
      · rename_i hn
        unfold evB at he ⊢
        cases hc : evC P O (iter n) c ⟨args ++ List.replicate (f.ntmps - args.length) uv, h⟩ with
        | none => rw [hc] at he; cases he
        | some q =>
          rw [hc] at he
          rw [if_neg hn, evC_le hO hnm c _ _ hc]
          exact he
end

theorem evN_le {P : Program} {X : Orc} : ∀ (n m : Nat), n ≤ m → LeO (evN P X n) (evN P X m) := by
  intro n
  induction n with
  | zero =>
    intro m hm K args h r he
    have he : X K args h = some r := he
    cases m with
    | zero => exact he
    | succ m => unfold evN; rw [he]
  | succ n ih =>
    intro m hm K args h r he
    obtain ⟨m, rfl⟩ : ∃ k, m = k + 1 := ⟨m - 1, by omega⟩
    unfold evN at he ⊢
    split at he
    · rename_i q hq; exact he
    · rename_i hq
      exact evF_le (ih m (by omega)) (by omega) he

/-- A call, by a run with some fuel. -/
theorem E_run {P : Program} {X : Orc} (n : Nat) {K : FuncId} {args : List V} {h : H} {r : V × H} (he : evN P X n K args h = some r) : E P X K args h = some r :=
  lim_eq ⟨n, fun m hm => evN_le n m hm K args h r he⟩

theorem LeE {P : Program} {X : Orc} (n : Nat) : LeO (evN P X n) (E P X) := fun K args h r he => E_run n he

end Go.Ab
