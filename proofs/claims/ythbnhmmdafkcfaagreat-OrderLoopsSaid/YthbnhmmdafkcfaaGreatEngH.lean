/- An evaluator of the program over states of which some values are told, and that what it says the program does. -/
import Derived.Test.YthbnhmmdafkcfaaGreatEngG
import Derived.Deep.LoopGhost
set_option linter.unusedVariables false
set_option linter.unusedSimpArgs false
namespace Go.Ab

section
variable {P : Program} {w0 : World} {Pr0 : Nat → Prop} {β0 : Bt}

/-- A run where some values are given, and less of the last state is told. -/
theorem evD_coarse (hm' : P.follows .mixedOrders = true) {X : Orc} (hX : OSound P X) {n k : Nat} {F : FuncId → Tmp → Bool} {F0 : Tmp → Bool} {c : Code} {s s' : St} {ex : Ex} {m : Nat} {ks : List Nat} {p : Nat → Value → Bool} {ds : List Value} {rec : List (Value × Value)}
    (he : ((dC P (evN P X n) (dN P X F n) F0 (iterD k) c s (ds, [])).bind fun r => if r.1.1 = ex then (coarseS m ks p r.1.2).map (·, r.2) else none) = some (s', [], rec)) (hk : ok rec) (hm : β0.length ≤ m) {a : Act} {w : World} {Q : Exit → Act → World → Prop} (hr : Rel P w0 Pr0 β0 s a w)
    (hq : ∀ a' w', Rel P w0 Pr0 β0 s' a' w' → Q ex.to a' w') : c.wp P Q a w := by
  cases h1 : dC P (evN P X n) (dN P X F n) F0 (iterD k) c s (ds, []) with
  | none => rw [h1] at he; cases he
  | some r =>
    obtain ⟨⟨ex1, s1⟩, q1⟩ := r
    rw [h1] at he
    simp only [Option.bind_some] at he
    split at he
    · rename_i hx
      cases h2 : coarseS m ks p s1 with
      | none => rw [h2] at he; cases he
      | some s2 =>
        rw [h2] at he
        simp only [Option.map_some] at he
        injection he with he
        injection he with e1 e2
        subst e1 e2
        obtain ⟨h3, h4⟩ := dC_ok (dN_ok n) c s ([], ds).swap (ex1, s1) _ (by simpa using h1) hk
        exact evC_coarse hm' (callE_sound (evN_sound hm' hX n)) (m := m) (ks := ks) (p := p) (ex := ex) (s' := s2) (by rw [h3]; simp only [Option.bind_some]; rw [if_pos hx, h2]) hm hr hq
    · cases he

/-- A loop that counts up. -/
theorem loop_up {Q : Exit → Act → World → Prop} {X : Code} {S : Nat → St} {N q0 : Nat} (h0 : q0 ≤ N) {a : Act} {w : World} (hr : Rel P w0 Pr0 β0 (S q0) a w)
    (hstep : ∀ q, q0 ≤ q → q < N → ∀ a w, Rel P w0 Pr0 β0 (S q) a w → X.wp P (Exit.then (fun a' w' => Rel P w0 Pr0 β0 (S (q + 1)) a' w') Q) a w)
    (hend : ∀ a w, Rel P w0 Pr0 β0 (S N) a w → X.wp P (Exit.then (fun _ _ => False) Q) a w) : (Code.loop X).wp P Q a w := by
  refine wp_loop_ghost (fun n a w => ∃ q, q0 ≤ q ∧ q ≤ N ∧ n = N - q ∧ Rel P w0 Pr0 β0 (S q) a w) (N - q0) ⟨q0, Nat.le_refl _, h0, rfl, hr⟩ fun n a w hI => ?_
  obtain ⟨q, h1, h2, h3, h4⟩ := hI
  rcases Nat.lt_or_ge q N with h | h
  · refine wp_mono (hstep q h1 h a w h4) fun e a' w' hq => ?_
    cases e with
    | normal => exact ⟨N - (q + 1), by omega, q + 1, by omega, by omega, rfl, hq⟩
    | exit id => exact hq
    | goto l => exact hq
    | ret => exact hq
    | panic => exact hq
    | outgrown => exact hq
  · have : q = N := by omega
    subst this
    refine wp_mono (hend a w h4) fun e a' w' hq => ?_
    cases e with
    | normal => exact hq.elim
    | exit id => exact hq
    | goto l => exact hq
    | ret => exact hq
    | panic => exact hq
    | outgrown => exact hq
end

end Go.Ab

set_option linter.unusedVariables false
set_option linter.unusedSimpArgs false
/-! The evaluator where some values and some calls cannot be told: what they are is given, and what must hold is kept. -/
namespace Go.Ab

/-- The values to come, and what must hold. -/
abbrev DV := List (V × H) × List Prop

def okP : List Prop → Prop
  | [] => True
  | p :: l => p ∧ okP l

theorem okP_append : ∀ {l m : List Prop}, okP (l ++ m) → okP l ∧ okP m
  | [], m, h => ⟨trivial, h⟩
  | p :: l, m, h => by
    obtain ⟨h1, h2⟩ := okP_append (l := l) h.2
    exact ⟨⟨h.1, h1⟩, h2⟩

abbrev VO := FuncId → List V → H → DV → Option ((V × H) × DV)

/-- A value; where it is one of those: as given. -/
def askV (flag : Bool) (v : V) (q : DV) : Option (V × DV) :=
  if flag then (match q.1 with | d :: ds => some (d.1, ds, (v = d.1) :: q.2) | _ => none) else some (v, q)

theorem askV_ok {flag : Bool} {v v' : V} {q q' : DV} (he : askV flag v q = some (v', q')) (hk : okP q'.2) : v' = v ∧ okP q.2 := by
  unfold askV at he
  split at he
  · split at he
    · injection he with he
      injection he with e1 e2
      subst e1 e2
      exact ⟨hk.1.symm, hk.2⟩
    · cases he
  · injection he with he
    injection he with e1 e2
    subst e1 e2
    exact ⟨rfl, hk⟩

def callV (Od : VO) (K : FuncId) (args : List V) (h : H) (q : DV) : Option ((V × H) × DV) :=
  let ids := reach h 400 [] (refsL args)
  if args.all (inV ids) && ids.all (fun i => inB ids ((h[i]?).getD .gone) && B.there ((h[i]?).getD .gone)) then
    (Od K (renL (place ids) args) (sub h ids) q).bind fun r =>
      let f := outer h ids
      if ids.length ≤ r.1.2.length then
        some ((ren f r.1.1, putAll h ids ((r.1.2.take ids.length).map (renB f)) ++ (r.1.2.drop ids.length).map (renB f)), r.2)
      else none
  else none

def LeV (O : Orc) (Od : VO) : Prop := ∀ K args h q r q', Od K args h q = some (r, q') → okP q'.2 → O K args h = some r ∧ okP q.2

theorem callV_ok {O : Orc} {Od : VO} (hO : LeV O Od) {K : FuncId} {args : List V} {h : H} {q q' : DV} {r : V × H} (he : callV Od K args h q = some (r, q')) (hk : okP q'.2) : callE O K args h = some r ∧ okP q.2 := by
  unfold callV at he
  unfold callE
  dsimp only at he ⊢
  split at he
  · rename_i hc
    rw [if_pos hc]
    cases h1 : Od K (renL (place (reach h 400 [] (refsL args))) args) (Ab.sub h (reach h 400 [] (refsL args))) q with
    | none => rw [h1] at he; cases he
    | some p =>
      obtain ⟨r1, q1⟩ := p
      rw [h1] at he
      simp only [Option.bind_some] at he
      split at he
      · rename_i hl
        injection he with he
        injection he with e1 e2
        subst e2
        obtain ⟨h2, h3⟩ := hO _ _ _ _ _ _ h1 hk
        rw [h2]
        simp only [Option.bind_some]
        rw [if_pos hl, e1]
        exact ⟨rfl, h3⟩
      · cases he
  · cases he

/-- An operation whose answer is given: what must hold. -/
def holeV (P : Program) (F : Tmp → Bool) (o : Oper) (ρ : Operand → V) (h : H) (d : V × H) : Option Prop :=
  match o.op, o.dst with
  | .load t x, some k => if F (k + 2000) then some (loadE P t (ρ x) h = some d.1 ∧ d.2 = h) else none
  | .indexAddr t x i, some k => if F (k + 2000) then some (idxE P t (ρ x) (ρ i) h = some d.1 ∧ d.2 = h) else none
  | .slice t x lo hi none, some k => if F (k + 2000) then some (slcE P t (ρ x) (lo.map ρ) (hi.map ρ) h = some d.1 ∧ d.2 = h) else none
  | .call { callee := .builtin .append, args, argTypes }, some k => if F (k + 2000) then (match args.toList, argTypes.toList with | [s, x], [t, u] => some (appE P t u (ρ s) (ρ x) h = some d) | _, _ => none) else none
  | .store t (.tmp k) y, none => if F (k + 2000) then some (storeE P t (ρ (.tmp k)) (ρ y) h = some d.2 ∧ d.1 = uv) else none
  | _, _ => none

theorem holeV_ok {P : Program} {O : Orc} {F : Tmp → Bool} {o : Oper} {ρ : Operand → V} {h : H} {d : V × H} {p : Prop} (he : holeV P F o ρ h d = some p) (hp : p) : opE P O o ρ h = some d := by
  obtain ⟨v, h1⟩ := d
  unfold holeV at he
  unfold opE
  split at he
  · rename_i t x k hop hdst
    split at he
    · injection he with he
      subst he
      obtain ⟨h2, h3⟩ := hp
      dsimp only at h2 h3
      subst h3
      simp only [hop, h2]
      rfl
    · cases he
  · rename_i t x i k hop hdst
    split at he
    · injection he with he
      subst he
      obtain ⟨h2, h3⟩ := hp
      dsimp only at h2 h3
      subst h3
      simp only [hop, h2]
      rfl
    · cases he
  · rename_i t x lo hi k hop hdst
    split at he
    · injection he with he
      subst he
      obtain ⟨h2, h3⟩ := hp
      dsimp only at h2 h3
      subst h3
      simp only [hop, h2]
      rfl
    · cases he
  · rename_i args ats k hop hdst
    split at he
    · simp only [hop]
      split at he
      · rename_i s x t u h4 h5
        injection he with he
        subst he
        simp only [h4, h5]
        exact hp
      · cases he
    · cases he
  · rename_i t k y hop hdst
    split at he
    · injection he with he
      subst he
      obtain ⟨h2, h3⟩ := hp
      dsimp only at h2 h3
      subst h3
      simp only [hop, h2]
      rfl
    · cases he
  · cases he

/-- The answer of an operation. -/
def opV (P : Program) (O : Orc) (Od : VO) (F : Tmp → Bool) (o : Oper) (ρ : Operand → V) (h : H) (q : DV) : Option ((V × H) × DV) :=
  match callOf P o ρ with
  | some c => callV Od c.1 c.2 h q
  | none =>
    match holeV P F o ρ h (uv, []) with
    | some _ => (match q.1 with
      | d :: ds => (holeV P F o ρ h d).map fun p => (d, ds, p :: q.2)
      | [] => none)
    | none => (opE P O o ρ h).bind fun r => (askV (flagT F o.dst) r.1 q).map fun x => ((x.1, r.2), x.2)

theorem opV_ok {P : Program} {O : Orc} {Od : VO} (hO : LeV O Od) {F : Tmp → Bool} {o : Oper} {ρ : Operand → V} {h : H} {q q' : DV} {r : V × H} (he : opV P O Od F o ρ h q = some (r, q')) (hk : okP q'.2) : opE P O o ρ h = some r ∧ okP q.2 := by
  unfold opV at he
  split at he
  · rename_i c hc
    obtain ⟨h1, h2⟩ := callV_ok hO he hk
    exact ⟨by rw [callOf_spec hc, h1], h2⟩
  · rename_i hc
    split at he
    · split at he
      · rename_i d ds hd
        cases h1 : holeV P F o ρ h d with
        | none => rw [h1] at he; cases he
        | some p =>
          rw [h1] at he
          injection he with he
          injection he with e1 e2
          subst e1 e2
          exact ⟨holeV_ok h1 hk.1, hk.2⟩
      · cases he
    · cases ho : opE P O o ρ h with
      | none => rw [ho] at he; cases he
      | some r1 =>
        rw [ho] at he
        simp only [Option.bind_some] at he
        cases ha : askV (flagT F o.dst) r1.1 q with
        | none => rw [ha] at he; cases he
        | some x =>
          rw [ha] at he
          simp only [Option.map_some] at he
          injection he with he
          injection he with e1 e2
          subst e1 e2
          obtain ⟨h1, h2⟩ := askV_ok ha hk
          rw [h1]
          exact ⟨rfl, h2⟩

def stepV (P : Program) (O : Orc) (Od : VO) (F : Tmp → Bool) (ops : Array Oper) (o : Oper) (s : St) (q : DV) : Option (St × DV) :=
  (wantE ops o s.tm).bind fun w =>
    if w then (opV P O Od F o s.ev s.h q).map fun r => (s.put o.dst r.1.1 r.1.2, r.2)
    else some (s.put o.dst uv s.h, q)

theorem stepV_ok {P : Program} {O : Orc} {Od : VO} (hO : LeV O Od) {F : Tmp → Bool} {ops : Array Oper} {o : Oper} {s s' : St} {q q' : DV} (he : stepV P O Od F ops o s q = some (s', q')) (hk : okP q'.2) : stepE P O ops o s = some s' ∧ okP q.2 := by
  unfold stepV at he
  unfold stepE
  cases hw : wantE ops o s.tm with
  | none => rw [hw] at he; cases he
  | some b =>
    rw [hw] at he
    simp only [Option.bind_some] at he ⊢
    cases b with
    | true =>
      simp only [if_true] at he ⊢
      cases ho : opV P O Od F o s.ev s.h q with
      | none => rw [ho] at he; cases he
      | some r =>
        rw [ho] at he
        simp only [Option.map_some] at he
        injection he with he
        injection he with e1 e2
        subst e1 e2
        obtain ⟨h1, h2⟩ := opV_ok hO ho hk
        rw [h1]
        exact ⟨rfl, h2⟩
    | false =>
      injection he with he
      injection he with e1 e2
      subst e1 e2
      exact ⟨rfl, hk⟩

def runV (P : Program) (O : Orc) (Od : VO) (F : Tmp → Bool) (ops : Array Oper) : List Oper → St → DV → Option (St × DV)
  | [], s, q => some (s, q)
  | o :: rest, s, q => (stepV P O Od F ops o s q).bind fun r => runV P O Od F ops rest r.1 r.2

theorem runV_ok {P : Program} {O : Orc} {Od : VO} (hO : LeV O Od) {F : Tmp → Bool} {ops : Array Oper} : ∀ (l : List Oper) (s s' : St) (q q' : DV), runV P O Od F ops l s q = some (s', q') → okP q'.2 → runE P O ops l s = some s' ∧ okP q.2
  | [], s, s', q, q', he, hk => by
    injection he with he
    injection he with e1 e2
    subst e1 e2
    exact ⟨rfl, hk⟩
  | o :: rest, s, s', q, q', he, hk => by
    unfold runV at he
    unfold runE
    cases h1 : stepV P O Od F ops o s q with
    | none => rw [h1] at he; cases he
    | some p =>
      rw [h1] at he
      simp only [Option.bind_some] at he
      obtain ⟨h2, h3⟩ := runV_ok hO rest p.1 s' p.2 q' he hk
      obtain ⟨h4, h5⟩ := stepV_ok hO h1 h3
      rw [h4]
      exact ⟨h2, h5⟩

/-- A drawn region, in the text's order. -/
def drawV (P : Program) (O : Orc) (Od : VO) (F : Tmp → Bool) (ops : Array Oper) (bs : List Nat) : List Oper → Nat → List (Nat × Foot) → List (Nat × Foot) → St → DV → Option (St × DV)
  | [], _, _, _, s, q => some (s, q)
  | o :: rest, k, rs, ms, s, q =>
    (wantE ops o s.tm).bind fun w =>
    if w then
      let r := rdF P o s.ev
      let m := modF P o s.ev s.h
      if Foot.inH s.h r && rs.all (fun q => waits bs q.1 k || m.all (fun f => !q.2.hits f)) && ms.all (fun q => waits bs q.1 k || !r.hits q.2) then
        (opV P O Od F o s.ev s.h q).bind fun x => drawV P O Od F ops bs rest (k + 1) (rs ++ [(k, r)]) (ms ++ m.map fun f => (k, f)) (s.put o.dst x.1.1 x.1.2) x.2
      else none
    else drawV P O Od F ops bs rest (k + 1) rs ms (s.put o.dst uv s.h) q

theorem drawV_ok {P : Program} {O : Orc} {Od : VO} (hO : LeV O Od) {F : Tmp → Bool} {ops : Array Oper} {bs : List Nat} : ∀ (l : List Oper) (k : Nat) (rs ms : List (Nat × Foot)) (s s' : St) (q q' : DV), drawV P O Od F ops bs l k rs ms s q = some (s', q') → okP q'.2 → drawE P O ops bs l k rs ms s = some s' ∧ okP q.2
  | [], k, rs, ms, s, s', q, q', he, hk => by
    injection he with he
    injection he with e1 e2
    subst e1 e2
    exact ⟨rfl, hk⟩
  | o :: rest, k, rs, ms, s, s', q, q', he, hk => by
    unfold drawV at he
    unfold drawE
    cases hw : wantE ops o s.tm with
    | none => rw [hw] at he; cases he
    | some b =>
      rw [hw] at he
      simp only [Option.bind_some] at he ⊢
      cases b with
      | true =>
        simp only [if_true] at he ⊢
        split at he
        · rename_i hc
          rw [if_pos hc]
          cases ho : opV P O Od F o s.ev s.h q with
          | none => rw [ho] at he; cases he
          | some x =>
            rw [ho] at he
            simp only [Option.bind_some] at he
            obtain ⟨h1, h2⟩ := drawV_ok hO rest _ _ _ _ _ _ _ he hk
            obtain ⟨h3, h4⟩ := opV_ok hO ho h2
            rw [h3]
            exact ⟨h1, h4⟩
        · cases he
      | false =>
        exact drawV_ok hO rest _ _ _ _ _ _ _ he hk

def regV (P : Program) (O : Orc) (Od : VO) (F : Tmp → Bool) (ops : Array Oper) (draw : Bool) (s : St) (q : DV) : Option (St × DV) :=
  if draw then (if drawOk ops then drawV P O Od F ops (befs ops.toList []) ops.toList 0 [] [] s q else (ndE P O ops s).map (·, q)) else runV P O Od F ops ops.toList s q

theorem regV_ok {P : Program} {O : Orc} {Od : VO} (hO : LeV O Od) {F : Tmp → Bool} {ops : Array Oper} {draw : Bool} {s s' : St} {q q' : DV} (he : regV P O Od F ops draw s q = some (s', q')) (hk : okP q'.2) : regE P O ops draw s = some s' ∧ okP q.2 := by
  unfold regV at he
  unfold regE
  cases draw with
  | true =>
    simp only [if_true] at he ⊢
    split at he
    · rename_i hd
      rw [if_pos hd]
      exact drawV_ok hO _ _ _ _ _ _ _ _ he hk
    · rename_i hd
      rw [if_neg hd]
      cases h1 : ndE P O ops s with
      | none => rw [h1] at he; cases he
      | some r =>
        rw [h1] at he
        injection he with he
        injection he with e1 e2
        subst e1 e2
        exact ⟨rfl, hk⟩
  | false =>
    exact runV_ok hO _ _ _ _ _ he hk

abbrev LpV := (St → DV → Option ((Ex × St) × DV)) → St → DV → Option ((Ex × St) × DV)

def iterV : Nat → LpV
  | 0, _, _, _ => none
  | n + 1, f, s, q => (f s q).bind fun r => match r.1.1 with | .normal => iterV n f r.1.2 r.2 | _ => some r

theorem iterV_ok : ∀ (n : Nat) {f : St → Option (Ex × St)} {g : St → DV → Option ((Ex × St) × DV)} (hf : ∀ s q r q', g s q = some (r, q') → okP q'.2 → f s = some r ∧ okP q.2) (s : St) (q : DV) (r : Ex × St) (q' : DV), iterV n g s q = some (r, q') → okP q'.2 → iter n f s = some r ∧ okP q.2
  | 0, _, _, _, _, _, _, _, he, _ => by cases he
  | n + 1, f, g, hf, s, q, r, q', he, hk => by
    unfold iterV at he
    unfold iter
    cases h1 : g s q with
    | none => rw [h1] at he; cases he
    | some p =>
      obtain ⟨⟨ex, s1⟩, q1⟩ := p
      rw [h1] at he
      simp only [Option.bind_some] at he
      cases ex with
      | normal =>
        simp only at he
        obtain ⟨h2, h3⟩ := iterV_ok n hf s1 q1 r q' he hk
        obtain ⟨h4, h5⟩ := hf s q (.normal, s1) q1 h1 h3
        rw [h4]
        exact ⟨h2, h5⟩
      | exit i =>
        simp only at he
        injection he with he
        injection he with e1 e2
        subst e1 e2
        obtain ⟨h4, h5⟩ := hf s q _ _ h1 hk
        rw [h4]
        exact ⟨rfl, h5⟩
      | ret =>
        simp only at he
        injection he with he
        injection he with e1 e2
        subst e1 e2
        obtain ⟨h4, h5⟩ := hf s q _ _ h1 hk
        rw [h4]
        exact ⟨rfl, h5⟩

def vC (P : Program) (O : Orc) (Od : VO) (F : Tmp → Bool) (L : LpV) : Code → St → DV → Option ((Ex × St) × DV)
  | .skip, s, q => some ((.normal, s), q)
  | .region _ ops draw, s, q => (regV P O Od F ops draw s q).map fun r => ((.normal, r.1), r.2)
  | .seq a b, s, q => (vC P O Od F L a s q).bind fun r => match r.1.1 with | .normal => vC P O Od F L b r.1.2 r.2 | _ => some r
  | .cond c a b, s, q => (askV (flagO F c) (s.ev c) q).bind fun x => (asB x.1).bind fun t => if t then vC P O Od F L a s x.2 else vC P O Od F L b s x.2
  | .block id a, s, q => (vC P O Od F L a s q).map fun r => ((if r.1.1 = .exit id then .normal else r.1.1, r.1.2), r.2)
  | .loop a, s, q => L (vC P O Od F L a) s q
  | .exit id, s, q => some ((.exit id, s), q)
  | .ret, s, q => some ((.ret, s), q)
  | _, _, _ => none

theorem vC_ok {P : Program} {O : Orc} {Od : VO} (hO : LeV O Od) {F : Tmp → Bool} {n : Nat} : ∀ (c : Code) (s : St) (q : DV) (r : Ex × St) (q' : DV), vC P O Od F (iterV n) c s q = some (r, q') → okP q'.2 → evC P O (iter n) c s = some r ∧ okP q.2 := by
  intro c
  induction c with
  | skip => intro s q r q' he hk; injection he with he; injection he with e1 e2; subst e1 e2; exact ⟨rfl, hk⟩
  | region id ops draw =>
    intro s q r q' he hk
    simp only [vC] at he
    simp only [evC]
    cases h1 : regV P O Od F ops draw s q with
    | none => rw [h1] at he; cases he
    | some p =>
      rw [h1] at he
      simp only [Option.map_some] at he
      injection he with he
      injection he with e1 e2
      subst e1 e2
      obtain ⟨h2, h3⟩ := regV_ok hO h1 hk
      rw [h2]
      exact ⟨rfl, h3⟩
  | seq a b iha ihb =>
    intro s q r q' he hk
    simp only [vC] at he
    simp only [evC]
    cases h1 : vC P O Od F (iterV n) a s q with
    | none => rw [h1] at he; cases he
    | some p =>
      obtain ⟨⟨ex, s1⟩, q1⟩ := p
      rw [h1] at he
      simp only [Option.bind_some] at he
      cases ex with
      | normal =>
        simp only at he
        obtain ⟨h2, h3⟩ := ihb _ _ _ _ he hk
        obtain ⟨h4, h5⟩ := iha _ _ _ _ h1 h3
        rw [h4]
        exact ⟨h2, h5⟩
      | exit i =>
        simp only at he
        injection he with he
        injection he with e1 e2
        subst e1 e2
        obtain ⟨h4, h5⟩ := iha _ _ _ _ h1 hk
        rw [h4]
        exact ⟨rfl, h5⟩
      | ret =>
        simp only at he
        injection he with he
        injection he with e1 e2
        subst e1 e2
        obtain ⟨h4, h5⟩ := iha _ _ _ _ h1 hk
        rw [h4]
        exact ⟨rfl, h5⟩
  | cond c a b iha ihb =>
    intro s q r q' he hk
    simp only [vC] at he
    simp only [evC]
    cases h0 : askV (flagO F c) (s.ev c) q with
    | none => rw [h0] at he; cases he
    | some x =>
      obtain ⟨v, q1⟩ := x
      rw [h0] at he
      simp only [Option.bind_some] at he
      cases h1 : asB v with
      | none => rw [h1] at he; cases he
      | some t =>
        rw [h1] at he
        simp only [Option.bind_some] at he ⊢
        have fin : okP q1.2 → s.ev c = v ∧ okP q.2 := fun hq => by
          obtain ⟨h2, h3⟩ := askV_ok h0 hq
          exact ⟨h2.symm, h3⟩
        cases t with
        | true =>
          simp only [if_true] at he
          obtain ⟨h3, h4⟩ := iha _ _ _ _ he hk
          obtain ⟨h5, h6⟩ := fin h4
          rw [h5, h1]
          exact ⟨h3, h6⟩
        | false =>
          simp only [Bool.false_eq_true, if_false] at he
          obtain ⟨h3, h4⟩ := ihb _ _ _ _ he hk
          obtain ⟨h5, h6⟩ := fin h4
          rw [h5, h1]
          exact ⟨h3, h6⟩
  | block id a iha =>
    intro s q r q' he hk
    simp only [vC] at he
    simp only [evC]
    cases h1 : vC P O Od F (iterV n) a s q with
    | none => rw [h1] at he; cases he
    | some p =>
      rw [h1] at he
      simp only [Option.map_some] at he
      injection he with he
      injection he with e1 e2
      subst e1 e2
      obtain ⟨h2, h3⟩ := iha _ _ _ _ h1 hk
      rw [h2]
      exact ⟨rfl, h3⟩
  | loop a iha =>
    intro s q r q' he hk
    exact iterV_ok n (fun s q r q' => iha s q r q') s q r q' he hk
  | exit id => intro s q r q' he hk; injection he with he; injection he with e1 e2; subst e1 e2; exact ⟨rfl, hk⟩
  | ret => intro s q r q' he hk; injection he with he; injection he with e1 e2; subst e1 e2; exact ⟨rfl, hk⟩
  | _ => intro s q r q' he hk; cases he

def vB (P : Program) (O : Orc) (Od : VO) (F : Tmp → Bool) (L : LpV) (c : Code) (n : Nat) (rs : List ResultVar) (args : List V) (h : H) (q : DV) : Option ((V × H) × DV) :=
  (vC P O Od F L c ⟨args ++ List.replicate (n - args.length) uv, h⟩ q).bind fun r =>
    match r.1.1 with
    | .exit _ => none
    | _ => ((resE P r.1.2 rs).bind fun v => gcE h.length v r.1.2.h).map (·, r.2)

def vF (P : Program) (O : Orc) (Od : VO) (F : FuncId → Tmp → Bool) (L : LpV) (K : FuncId) (args : List V) (h : H) (q : DV) : Option ((V × H) × DV) :=
  (P.funcs[K]?).bind fun f => f.body.bind fun c => if f.name == "runtime.NumGoroutine" then none else vB P O Od (F K) L c f.ntmps f.results.toList args h q

/-- A call that is known where something holds. -/
abbrev Cnd := FuncId → List V → H → Option ((V × H) × List Prop)

open Classical in
/-- The same, as one that the evaluator need not run. -/
noncomputable def orY (X : Orc) (Y : Cnd) : Orc := fun K args h => match X K args h with
  | some r => some r
  | none => match Y K args h with
    | some r => if okP r.2 then some r.1 else none
    | none => none

def CSound (P : Program) (Y : Cnd) : Prop := ∀ K args h v h' l, Y K args h = some ((v, h'), l) → okP l → Callable P K ∧ Run P K args h v h'

theorem orY_sound {P : Program} {X : Orc} {Y : Cnd} (hX : OSound P X) (hY : CSound P Y) : OSound P (orY X Y) := by
  intro K args h v h' he
  unfold orY at he
  split at he
  · rename_i r hr
    injection he with he
    subst he
    exact hX K args h v h' hr
  · split at he
    · rename_i r hr
      split at he
      · rename_i hk
        injection he with he
        obtain ⟨r1, l⟩ := r
        dsimp only at he hk
        subst he
        exact hY K args h v h' l hr hk
      · cases he
    · cases he

noncomputable def vN (P : Program) (X : Orc) (Y : Cnd) (F : FuncId → Tmp → Bool) : Nat → VO
  | 0 => fun K args h q => match X K args h with
    | some r => some (r, q)
    | none => (Y K args h).map fun r => (r.1, (q.1, r.2 ++ q.2))
  | n + 1 => fun K args h q => match X K args h with
    | some r => some (r, q)
    | none => match Y K args h with
      | some r => some (r.1, (q.1, r.2 ++ q.2))
      | none => vF P (evN P (orY X Y) n) (vN P X Y F n) F (iterV n) K args h q

theorem vB_ok {P : Program} {O : Orc} {Od : VO} (hO : LeV O Od) {F : Tmp → Bool} {n m : Nat} {c : Code} {rs : List ResultVar} {args : List V} {h : H} {q q' : DV} {r : V × H} (he : vB P O Od F (iterV n) c m rs args h q = some (r, q')) (hk : okP q'.2) : evB P O (iter n) c m rs args h = some r ∧ okP q.2 := by
  unfold vB at he
  unfold evB
  cases h1 : vC P O Od F (iterV n) c ⟨args ++ List.replicate (m - args.length) uv, h⟩ q with
  | none => rw [h1] at he; cases he
  | some p =>
    obtain ⟨⟨ex, s1⟩, q1⟩ := p
    rw [h1] at he
    simp only [Option.bind_some] at he
    have key : ∀ {x : Option (V × H)}, x.map (·, q1) = some (r, q') → x = some r ∧ q1 = q' := fun {x} hx => by
      cases x with
      | none => cases hx
      | some y =>
        injection hx with hx
        injection hx with e1 e2
        exact ⟨by rw [e1], e2⟩
    cases ex with
    | exit i => cases he
    | normal =>
      simp only at he
      obtain ⟨h2, h3⟩ := key he
      subst h3
      obtain ⟨h4, h5⟩ := vC_ok hO c _ _ _ _ h1 hk
      rw [h4]
      exact ⟨h2, h5⟩
    | ret =>
      simp only at he
      obtain ⟨h2, h3⟩ := key he
      subst h3
      obtain ⟨h4, h5⟩ := vC_ok hO c _ _ _ _ h1 hk
      rw [h4]
      exact ⟨h2, h5⟩

theorem vN_ok {P : Program} {X : Orc} {Y : Cnd} {F : FuncId → Tmp → Bool} : ∀ n, LeV (evN P (orY X Y) n) (vN P X Y F n)
  | 0 => fun K args h q r q' he hk => by
    simp only [vN] at he
    simp only [evN, orY]
    cases h1 : X K args h with
    | some y =>
      rw [h1] at he
      injection he with he
      injection he with e1 e2
      subst e1 e2
      exact ⟨rfl, hk⟩
    | none =>
      rw [h1] at he
      simp only at he ⊢
      cases h2 : Y K args h with
      | none => rw [h2] at he; cases he
      | some y =>
        rw [h2] at he
        injection he with he
        injection he with e1 e2
        subst e1 e2
        obtain ⟨h3, h4⟩ := okP_append hk
        exact ⟨if_pos h3, h4⟩
  | n + 1 => fun K args h q r q' he hk => by
    simp only [vN] at he
    simp only [evN, orY]
    cases h1 : X K args h with
    | some y =>
      rw [h1] at he
      injection he with he
      injection he with e1 e2
      subst e1 e2
      exact ⟨rfl, hk⟩
    | none =>
      rw [h1] at he
      simp only at he ⊢
      cases h2 : Y K args h with
      | some y =>
        rw [h2] at he
        injection he with he
        injection he with e1 e2
        subst e1 e2
        obtain ⟨h3, h4⟩ := okP_append hk
        exact ⟨by simp only [if_pos h3], h4⟩
      | none =>
        rw [h2] at he
        simp only at he ⊢
        unfold vF at he
        unfold evF
        cases hf : P.funcs[K]? with
        | none => rw [hf] at he; cases he
        | some f =>
          rw [hf] at he
          simp only [Option.bind_some] at he ⊢
          cases hb : f.body with
          | none => rw [hb] at he; cases he
          | some c =>
            rw [hb] at he
            simp only [Option.bind_some] at he ⊢
            split at he
            · cases he
            · rename_i hn
              rw [if_neg hn]
              exact vB_ok (vN_ok n) he hk

section
variable {P : Program} {w0 : World} {Pr0 : Nat → Prop} {β0 : Bt}

/-- A run where some values and calls are given, and less of the last state is told. -/
theorem evV_coarse (hm' : P.follows .mixedOrders = true) {X : Orc} (hX : OSound P X) {Y : Cnd} (hY : CSound P Y) {n k : Nat} {F : FuncId → Tmp → Bool} {F0 : Tmp → Bool} {c : Code} {s s' : St} {ex : Ex} {m : Nat} {ks : List Nat} {p : Nat → Value → Bool} {ds : List (V × H)} {rec : List Prop}
    (he : ((vC P (evN P (orY X Y) n) (vN P X Y F n) F0 (iterV k) c s (ds, [])).bind fun r => if r.1.1 = ex then (coarseS m ks p r.1.2).map (·, r.2) else none) = some (s', [], rec)) (hk : okP rec) (hm : β0.length ≤ m) {a : Act} {w : World} {Q : Exit → Act → World → Prop} (hr : Rel P w0 Pr0 β0 s a w)
    (hq : ∀ a' w', Rel P w0 Pr0 β0 s' a' w' → Q ex.to a' w') : c.wp P Q a w := by
  cases h1 : vC P (evN P (orY X Y) n) (vN P X Y F n) F0 (iterV k) c s (ds, []) with
  | none => rw [h1] at he; cases he
  | some r =>
    obtain ⟨⟨ex1, s1⟩, q1⟩ := r
    rw [h1] at he
    simp only [Option.bind_some] at he
    split at he
    · rename_i hx
      cases h2 : coarseS m ks p s1 with
      | none => rw [h2] at he; cases he
      | some s2 =>
        rw [h2] at he
        simp only [Option.map_some] at he
        injection he with he
        injection he with e1 e2
        subst e1 e2
        obtain ⟨h3, h4⟩ := vC_ok (vN_ok n) c s (ds, []) (ex1, s1) _ h1 hk
        exact evC_coarse hm' (callE_sound (evN_sound hm' (orY_sound hX hY) n)) (m := m) (ks := ks) (p := p) (ex := ex) (s' := s2) (by rw [h3]; simp only [Option.bind_some]; rw [if_pos hx, h2]) hm hr hq
    · cases he
end

/-- One call that is known. -/
def cOne (K0 : FuncId) (args0 : List V) (h0 : H) (r : V × H) : Cnd := fun K args h => if K = K0 then some (r, [args = args0 ∧ h = h0]) else none
def cNone : Cnd := fun _ _ _ => none
def cOr (Y Z : Cnd) : Cnd := fun K args h => match Y K args h with | some r => some r | none => Z K args h

theorem cOne_sound {P : Program} {K0 : FuncId} {args0 : List V} {h0 : H} {v : V} {h' : H} (hr : Callable P K0 ∧ Run P K0 args0 h0 v h') : CSound P (cOne K0 args0 h0 (v, h')) := by
  intro K args h v1 h1 l he hk
  unfold cOne at he
  split at he
  · rename_i hK
    subst hK
    injection he with he
    injection he with e1 e2
    injection e1 with e3 e4
    subst e2 e3 e4
    obtain ⟨⟨h2, h3⟩, _⟩ := hk
    subst h2 h3
    exact hr
  · cases he

theorem cNone_sound {P : Program} : CSound P cNone := fun _ _ _ _ _ _ he => by cases he

theorem cOr_sound {P : Program} {Y Z : Cnd} (hY : CSound P Y) (hZ : CSound P Z) : CSound P (cOr Y Z) := by
  intro K args h v h' l he hk
  unfold cOr at he
  split at he
  · rename_i r hr
    injection he with he
    subst he
    exact hY K args h v h' l hr hk
  · exact hZ K args h v h' l he hk

end Go.Ab

set_option linter.unusedVariables false
set_option linter.unusedSimpArgs false
namespace Go.Ab

section
variable {P : Program} {w0 : World} {Pr0 : Nat → Prop} {β0 : Bt}

theorem idx_tail {k g i : Nat} (hi : i < k) : (List.range k ++ [k + g])[i]? = some i := by
  rw [List.getElem?_append_left (by simpa using hi)]
  simp [hi]

theorem place_tail {k g i : Nat} (hi : i < k) : place (List.range k ++ [k + g]) i = i := by
  unfold place
  rw [List.idxOf_append]
  rw [if_pos (by simpa using hi)]
  exact place_range hi

/-- A last block of which only that it refers to nothing is told: what lies before it goes. -/
theorem Rel.tail {k : Nat} {A G : H} {b : B} {tm tmw tm' : List V} (hA : A.length = k) (hm : β0.length ≤ k) (hAr : (A.all fun x => (refsB x).all fun j => decide (j < k)) = true) (hb : refsB b = []) (hw : wkL tm tmw)
    (ht : (tmw.all fun v => (refs v).all fun j => decide (j < k) || j == k + G.length) = true) (hren : renL (fun i => if i < k then i else k) tmw = tm') {a : Act} {w : World} (hr : Rel P w0 Pr0 β0 ⟨tm, A ++ (G ++ [b])⟩ a w) : Rel P w0 Pr0 β0 ⟨tm', A ++ [b]⟩ a w := by
  obtain ⟨Pr, β, e, hh, hl, hd⟩ := hr
  dsimp only at hh hl
  have hnd : (List.range k ++ [k + G.length]).Nodup := by
    rw [List.nodup_append]
    refine ⟨List.nodup_range, by simp, fun a ha b hb => ?_⟩
    simp at ha hb
    omega
  have hlen : ∀ i ∈ List.range k ++ [k + G.length], i < (A ++ (G ++ [b])).length := fun i hi => by
    simp at hi ⊢
    omega
  have hat : ∀ i x, (A ++ (G ++ [b]))[i]? = some x → i ∈ List.range k ++ [k + G.length] → (i < k ∧ A[i]? = some x) ∨ (i = k + G.length ∧ x = b) := fun i x hx hi => by
    rcases List.mem_append.1 hi with h | h
    · have h1 : i < k := by simpa using h
      left
      refine ⟨h1, ?_⟩
      rw [List.getElem?_append_left (by omega)] at hx
      exact hx
    · right
      have h1 : i = k + G.length := by simpa using h
      refine ⟨h1, ?_⟩
      subst h1
      rw [List.getElem?_append_right (by omega), hA, Nat.add_sub_cancel_left, List.getElem?_append_right (Nat.le_refl _)] at hx
      simpa using hx.symm
  have hcl : ∀ i ∈ List.range k ++ [k + G.length], ∀ x, (A ++ (G ++ [b]))[i]? = some x → ∀ j ∈ refsB x, j ∈ List.range k ++ [k + G.length] := fun i hi x hx j hj => by
    rcases hat i x hx hi with ⟨h1, h2⟩ | ⟨h1, h2⟩
    · have h3 := List.all_eq_true.1 (List.all_eq_true.1 hAr x (List.mem_of_getElem? h2)) j hj
      simp at h3
      simp
      left
      exact h3
    · subst h2
      rw [hb] at hj
      cases hj
  have hs := hh.sub hnd hlen hcl
  have hsub : Ab.sub (A ++ (G ++ [b])) (List.range k ++ [k + G.length]) = A ++ [b] := by
    unfold Ab.sub
    rw [List.map_append]
    congr 1
    · apply List.ext_getElem?
      intro i
      by_cases hi : i < k
      · have h2 : A[i]? = some A[i] := List.getElem?_eq_getElem (by omega)
        simp only [List.getElem?_map, List.getElem?_range hi, Option.map_some]
        rw [List.getElem?_append_left (by omega), h2]
        simp only [Option.getD_some]
        rw [renB_id]
        intro j hj
        have h3 := List.all_eq_true.1 (List.all_eq_true.1 hAr _ (List.mem_of_getElem? h2)) j hj
        exact place_tail (by simpa using h3)
      · rw [List.getElem?_eq_none (by simp; omega), List.getElem?_eq_none (by omega)]
    · simp only [List.map_cons, List.map_nil]
      rw [List.getElem?_append_right (by omega), hA, Nat.add_sub_cancel_left, List.getElem?_append_right (Nat.le_refl _)]
      simp only [Nat.sub_self, List.getElem?_cons_zero, Option.getD_some]
      rw [renB_id]
      intro j hj
      rw [hb] at hj
      cases hj
  rw [hsub] at hs
  have hnm : ∀ (q b sz : Nat), (subT β (List.range k ++ [k + G.length]))[q]? = some (b, sz) → ∃ i : Nat, β[i]? = some (b, sz) := fun q b sz hk => by
    obtain ⟨i, hi, hie⟩ := map_getD_some hk
    obtain ⟨b2, s2, hb2⟩ := hh.at (List.getElem?_eq_getElem (hlen i (List.mem_of_getElem? hi)))
    rw [hb2] at hie
    simp at hie
    exact ⟨i, by rw [hb2, hie.1, hie.2]⟩
  refine ⟨Pr, subT β (List.range k ++ [k + G.length]), ⟨e.size, e.os, e.tape, e.out, e.pr, e.new, fun i x hx => ?_, fun q b sz hk => ?_, e.sz, e.keep⟩, hs, ?_, hd⟩
  · have hi : i < k := Nat.lt_of_lt_of_le (List.getElem?_eq_some_iff.1 hx).1 hm
    exact subT_at (idx_tail hi) (e.be i x hx)
  · obtain ⟨i, hi⟩ := hnm q b sz hk
    exact e.bn i b sz hi
  · dsimp only
    rw [← hren]
    refine (wkL_rl hw hl).ren _ fun i hi x hx => ?_
    have h1 : i < k ∨ i = k + G.length := by
      have : ∀ (l : List V), (l.all fun v => (refs v).all fun j => decide (j < k) || j == k + G.length) = true → i ∈ refsL l → i < k ∨ i = k + G.length := by
        intro l
        induction l with
        | nil => intro _ h; cases h
        | cons v l ih =>
          intro h1 h2
          rw [List.all_cons, Bool.and_eq_true] at h1
          rcases List.mem_append.1 h2 with h | h
          · have := List.all_eq_true.1 h1.1 i h
            simpa using this
          · exact ih h1.2 h
      exact this tmw ht hi
    rcases h1 with h1 | h1
    · rw [if_pos h1]
      exact subT_at (idx_tail h1) hx
    · subst h1
      rw [if_neg (by omega)]
      refine subT_at ?_ hx
      rw [List.getElem?_append_right (by simp)]
      simp

/-- A run where some values and calls are given; of some variables no more is told. -/
theorem evV_mask (hm' : P.follows .mixedOrders = true) {X : Orc} (hX : OSound P X) {Y : Cnd} (hY : CSound P Y) {n k : Nat} {F : FuncId → Tmp → Bool} {F0 : Tmp → Bool} {c : Code} {s s' : St} {ex : Ex} {ks : List Nat} {ds : List (V × H)} {rec : List Prop}
    (he : ((vC P (evN P (orY X Y) n) (vN P X Y F n) F0 (iterV k) c s (ds, [])).map fun r => (r.1.1, (⟨mask ks r.1.2.tm, r.1.2.h⟩ : St), r.2)) = some (ex, s', [], rec)) (hk : okP rec) {a : Act} {w : World} {Q : Exit → Act → World → Prop} (hr : Rel P w0 Pr0 β0 s a w)
    (hq : ∀ a' w', Rel P w0 Pr0 β0 s' a' w' → Q ex.to a' w') : c.wp P Q a w := by
  cases h1 : vC P (evN P (orY X Y) n) (vN P X Y F n) F0 (iterV k) c s (ds, []) with
  | none => rw [h1] at he; cases he
  | some r =>
    obtain ⟨⟨ex1, s1⟩, q1⟩ := r
    rw [h1] at he
    simp only [Option.map_some, Option.some.injEq, Prod.mk.injEq] at he
    obtain ⟨e1, e2, e3⟩ := he
    subst e1 e2 e3
    obtain ⟨h3, h4⟩ := vC_ok (vN_ok n) c s (ds, []) (ex1, s1) _ h1 hk
    refine evC_wp hm' (callE_sound (evN_sound hm' (orY_sound hX hY) n)) k c s ex1 s1 a w Q h3 hr fun a' w' hr' => hq a' w' ?_
    obtain ⟨Pr, β, q1, q2, q3, q4⟩ := hr'
    exact ⟨Pr, β, q1, q2, wkL_rl (mask_wk ks _ 0) q3, q4⟩
end
end Go.Ab

set_option linter.unusedVariables false
set_option linter.unusedSimpArgs false
namespace Go.Ab

section
variable {P : Program} {w0 : World} {Pr0 : Nat → Prop} {β0 : Bt}

theorem renL_append (f : Nat → Nat) : ∀ (l m : List V), renL f (l ++ m) = renL f l ++ renL f m
  | [], _ => rfl
  | v :: l, m => by
    show ren f v :: renL f (l ++ m) = ren f v :: (renL f l ++ renL f m)
    rw [renL_append f l m]

theorem refsL_append : ∀ (l m : List V), refsL (l ++ m) = refsL l ++ refsL m
  | [], _ => rfl
  | v :: l, m => by
    show refs v ++ refsL (l ++ m) = (refs v ++ refsL l) ++ refsL m
    rw [refsL_append l m, List.append_assoc]

theorem place_head {k i : Nat} {js : List Nat} (hi : i < k) : place (List.range k ++ js) i = i := by
  unfold place
  rw [List.idxOf_append]
  rw [if_pos (by simpa using hi)]
  exact place_range hi

theorem refsL_all {q : Nat → Bool} {l : List V} (h : (l.all fun v => (refs v).all q) = true) : ∀ i ∈ refsL l, q i = true := by
  intro i hi
  obtain ⟨v, hv, hiv⟩ := refsL_inv hi
  exact List.all_eq_true.1 (List.all_eq_true.1 h v hv) i hiv

/-- A block in the middle of which only that it refers to nothing is told, and a variable that only refers to it; of the blocks behind it some are kept. -/
theorem Rel.pick {k : Nat} {A G A' G' : H} {X : B} {js : List Nat} {T1 T2 T1' T2' : List V} {v : V} (hA : A.length = k) (hm : β0.length ≤ k) (hX : refsB X = [])
    (hv : ∀ i ∈ refs v, i = k) (hv2 : ∀ f : Nat → Nat, f k = k → ren f v = v)
    (hjs : (js.all fun j => decide (k + 1 ≤ j) && decide (j < k + 1 + G.length)) = true) (hnd : js.Nodup)
    (hcl : ((A ++ js.map fun j => (G[j - (k + 1)]?).getD .gone).all fun b => (refsB b).all fun i => decide (i < k) || js.contains i) = true)
    (ht : ((T1 ++ T2).all fun u => (refs u).all fun i => decide (i < k) || js.contains i) = true)
    (hA' : A.map (renB (place (List.range (k + 1) ++ js))) = A') (hG' : (js.map fun j => renB (place (List.range (k + 1) ++ js)) ((G[j - (k + 1)]?).getD .gone)) = G')
    (hT1 : renL (place (List.range (k + 1) ++ js)) T1 = T1') (hT2 : renL (place (List.range (k + 1) ++ js)) T2 = T2')
    {a : Act} {w : World} (hr : Rel P w0 Pr0 β0 ⟨T1 ++ v :: T2, A ++ X :: G⟩ a w) : Rel P w0 Pr0 β0 ⟨T1' ++ v :: T2', A' ++ X :: G'⟩ a w := by
  obtain ⟨Pr, β, e, hh, hl, hd⟩ := hr
  dsimp only at hh hl
  have hj : ∀ j ∈ js, k + 1 ≤ j ∧ j < k + 1 + G.length := fun j hj => by
    have := List.all_eq_true.1 hjs j hj
    simpa using this
  have hnd2 : (List.range (k + 1) ++ js).Nodup := by
    rw [List.nodup_append]
    refine ⟨List.nodup_range, hnd, fun a ha b hb => ?_⟩
    have h1 := hj b hb
    simp at ha
    omega
  have hlen : ∀ i ∈ List.range (k + 1) ++ js, i < (A ++ X :: G).length := fun i hi => by
    rcases List.mem_append.1 hi with h | h
    · simp at h ⊢
      omega
    · have := hj i h
      simp
      omega
  have hok : ∀ i, (decide (i < k) || js.contains i) = true → i ∈ List.range (k + 1) ++ js := fun i hi => by
    simp at hi ⊢
    rcases hi with h | h
    · left; omega
    · right; exact h
  have hgA : ∀ i, i < k → (A ++ X :: G)[i]? = A[i]? := fun i hi => List.getElem?_append_left (by omega)
  have hgX : (A ++ X :: G)[k]? = some X := by
    rw [List.getElem?_append_right (by omega), hA, Nat.sub_self]
    rfl
  have hgG : ∀ i, k + 1 ≤ i → (A ++ X :: G)[i]? = G[i - (k + 1)]? := fun i hi => by
    rw [List.getElem?_append_right (by omega), hA, show i - k = (i - (k + 1)) + 1 by omega, List.getElem?_cons_succ]
  have hcl2 : ∀ i ∈ List.range (k + 1) ++ js, ∀ x, (A ++ X :: G)[i]? = some x → ∀ j ∈ refsB x, j ∈ List.range (k + 1) ++ js := fun i hi x hx j hjx => by
    have hall := List.all_eq_true.1 hcl
    rcases List.mem_append.1 hi with h | h
    · have h1 : i < k + 1 := by simpa using h
      by_cases h2 : i = k
      · subst h2
        rw [hgX] at hx
        injection hx with hx
        subst hx
        rw [hX] at hjx
        cases hjx
      · rw [hgA i (by omega)] at hx
        exact hok j (List.all_eq_true.1 (hall x (List.mem_append_left _ (List.mem_of_getElem? hx))) j hjx)
    · have h1 := hj i h
      rw [hgG i h1.1] at hx
      refine hok j (List.all_eq_true.1 (hall x (List.mem_append_right _ (List.mem_map.2 ⟨i, h, by rw [hx]; rfl⟩))) j hjx)
  have hs := hh.sub hnd2 hlen hcl2
  have hfk : place (List.range (k + 1) ++ js) k = k := place_head (by omega)
  have hsub : Ab.sub (A ++ X :: G) (List.range (k + 1) ++ js) = A' ++ X :: G' := by
    unfold Ab.sub
    rw [List.map_append]
    have e1 : (List.map (fun i => renB (place (List.range (k + 1) ++ js)) (((A ++ X :: G)[i]?).getD .gone)) (List.range (k + 1))) = A' ++ [X] := by
      rw [List.range_succ, List.map_append, List.map_cons, List.map_nil, hgX]
      rw [List.range_succ] at hA'
      congr 1
      · rw [← hA']
        apply List.ext_getElem?
        intro i
        by_cases hi : i < k
        · rw [List.getElem?_map, List.getElem?_map, List.getElem?_range hi, Option.map_some, hgA i hi, List.getElem?_eq_getElem (show i < A.length by omega)]
          rfl
        · rw [List.getElem?_eq_none (by simp; omega), List.getElem?_eq_none (by simp; omega)]
      · rw [Option.getD_some, renB_id]
        intro i hi
        rw [hX] at hi
        cases hi
    rw [e1, List.append_assoc, ← hG']
    congr 1
    rw [List.cons_append, List.nil_append]
    congr 1
    apply List.map_congr_left
    intro j hjj
    rw [hgG j (hj j hjj).1]
  rw [hsub] at hs
  have hnm : ∀ (q b sz : Nat), (subT β (List.range (k + 1) ++ js))[q]? = some (b, sz) → ∃ i : Nat, β[i]? = some (b, sz) := fun q b sz hk => by
    obtain ⟨i, hi, hie⟩ := map_getD_some hk
    obtain ⟨b2, s2, hb2⟩ := hh.at (List.getElem?_eq_getElem (hlen i (List.mem_of_getElem? hi)))
    rw [hb2] at hie
    simp at hie
    exact ⟨i, by rw [hb2, hie.1, hie.2]⟩
  refine ⟨Pr, subT β (List.range (k + 1) ++ js), ⟨e.size, e.os, e.tape, e.out, e.pr, e.new, fun i x hx => ?_, fun q b sz hk => ?_, e.sz, e.keep⟩, hs, ?_, hd⟩
  · have hi : i < k := Nat.lt_of_lt_of_le (List.getElem?_eq_some_iff.1 hx).1 hm
    refine subT_at ?_ (e.be i x hx)
    rw [List.getElem?_append_left (by rw [List.length_range]; omega)]
    exact List.getElem?_range (by omega)
  · obtain ⟨i, hi⟩ := hnm q b sz hk
    exact e.bn i b sz hi
  · dsimp only
    have e2 : renL (place (List.range (k + 1) ++ js)) (T1 ++ v :: T2) = T1' ++ v :: T2' := by
      rw [renL_append]
      show renL _ T1 ++ (ren _ v :: renL _ T2) = _
      rw [hT1, hT2, hv2 _ hfk]
    rw [← e2]
    refine hl.ren _ fun i hi x hx => ?_
    have hin : i ∈ List.range (k + 1) ++ js := by
      rw [refsL_append] at hi
      have ht2 := refsL_all ht
      rw [refsL_append] at ht2
      rcases List.mem_append.1 hi with h | h
      · exact hok i (ht2 i (List.mem_append_left _ h))
      · rcases List.mem_append.1 h with h1 | h1
        · rw [hv i h1]
          exact List.mem_append_left _ (by simp)
        · exact hok i (ht2 i (List.mem_append_right _ h1))
    exact subT_at (place_at hin) hx

/-- What is in a block is no more told. -/
def deadC (es : List (List V)) : List (List V) := es.map fun e => e.map fun _ => .dead
theorem Rel.forget {tm : List V} {h : H} {i : Nat} {t : TypeId} {es : List (List V)} {ex : Bool} (hi : h[i]? = some (.cells t es ex)) {a : Act} {w : World} (hr : Rel P w0 Pr0 β0 ⟨tm, h⟩ a w) : Rel P w0 Pr0 β0 ⟨tm, h.set i (.cells t (deadC es) ex)⟩ a w := by
  obtain ⟨Pr, β, e, hh, hl, hd⟩ := hr
  dsimp only at hh hl
  have hil : i < h.length := (List.getElem?_eq_some_iff.1 hi).1
  refine ⟨Pr, β, e, ?_, hl, hd⟩
  have hat : ∀ (j : Nat) (x : B), (h.set i (.cells t (deadC es) ex))[j]? = some x → (j = i ∧ x = .cells t (deadC es) ex) ∨ (j ≠ i ∧ h[j]? = some x) := fun j x hx => by
    by_cases hji : j = i
    · subst hji
      rw [List.getElem?_set_self hil] at hx
      injection hx with hx
      exact .inl ⟨rfl, hx.symm⟩
    · rw [List.getElem?_set_ne (Ne.symm hji)] at hx
      exact .inr ⟨hji, hx⟩
  have hlive : ∀ j, live (h.set i (.cells t (deadC es) ex)) j → live h j := fun j ⟨x, hx, hn⟩ => by
    rcases hat j x hx with ⟨h1, h2⟩ | ⟨h1, h2⟩
    · subst h1
      exact ⟨_, hi, fun h => by cases h⟩
    · exact ⟨x, h2, hn⟩
  refine ⟨by simpa using hh.len, hh.lt, fun j x b sz hx hb => ?_, fun j j' b sz sz' h1 h2 => hh.inj j j' b sz sz' (hlive j h1) (hlive j' h2), hh.prot, hh.plt⟩
  rcases hat j x hx with ⟨h1, h2⟩ | ⟨h1, h2⟩
  · subst h1 h2
    obtain ⟨c, q1, q2, q3, q4, q5, q6⟩ := hh.blk j _ b sz hi hb
    have hlen : (deadC es).length = es.length := by simp [deadC]
    refine ⟨c, q1, q2, fun m e he => ?_, by rw [hlen]; exact q4, by rw [hlen]; exact q5, fun m e n v he hv => ?_⟩
    · unfold deadC at he
      rw [List.getElem?_map] at he
      obtain ⟨e0, h3, h4⟩ := Option.map_eq_some_iff.1 he
      subst h4
      rw [List.length_map]
      exact q3 m e0 h3
    · unfold deadC at he
      rw [List.getElem?_map] at he
      obtain ⟨e0, h3, h4⟩ := Option.map_eq_some_iff.1 he
      subst h4
      rw [List.getElem?_map] at hv
      obtain ⟨v0, h5, h6⟩ := Option.map_eq_some_iff.1 hv
      subst h6
      obtain ⟨u, h7, h8⟩ := q6 m e0 n v0 h3 h5
      exact ⟨u, h7, .dead⟩
  · exact hh.blk j x b sz h2 hb

/-- A name for a block of which nothing is told. -/
theorem Rel.addGone {tm : List V} {x : B} {h : H} {a : Act} {w : World} (hr : Rel P w0 Pr0 β0 ⟨tm, x :: h⟩ a w) : Rel P w0 Pr0 β0 ⟨tm, (x :: h) ++ [.gone]⟩ a w := by
  obtain ⟨Pr, β, e, hh, hl, hd⟩ := hr
  dsimp only at hh hl
  obtain ⟨b0, z0, hb0⟩ := hh.at (i := 0) (x := x) rfl
  have hup : ∀ (i : Nat) (y : Nat × Nat), β[i]? = some y → (β ++ [(b0, z0)])[i]? = some y := fun i y hy => by
    rw [List.getElem?_append_left (List.getElem?_eq_some_iff.1 hy).1]
    exact hy
  have hdn : ∀ (i b sz : Nat), (β ++ [(b0, z0)])[i]? = some (b, sz) → β[i]? = some (b, sz) ∨ (i = β.length ∧ b = b0) := fun i b sz hy => by
    rcases getElem?_append_one hy with h1 | ⟨h1, h2⟩
    · exact .inl h1
    · injection h2 with h3 h4
      exact .inr ⟨h1, h3⟩
  have hlv : ∀ i, live ((x :: h) ++ [.gone]) i → live (x :: h) i := fun i ⟨y, hy, hn⟩ => by
    rcases getElem?_append_one hy with h1 | ⟨h1, h2⟩
    · exact ⟨y, h1, hn⟩
    · exact absurd h2 hn
  have hlt : ∀ i, live (x :: h) i → i < β.length := fun i ⟨y, hy, _⟩ => by
    rw [hh.len]
    exact (List.getElem?_eq_some_iff.1 hy).1
  refine ⟨Pr, β ++ [(b0, z0)], ⟨e.size, e.os, e.tape, e.out, e.pr, e.new, fun i y hy => hup i y (e.be i y hy), fun i b sz hy => ?_, e.sz, e.keep⟩, ⟨?_, fun i b sz hy => ?_, fun i y b sz hy hb => ?_, fun i i' b sz sz' h1 h2 h3 h4 => ?_, fun i b sz hy => ?_, hh.plt⟩, ?_, hd⟩
  · rcases hdn i b sz hy with h1 | ⟨_, h1⟩
    · exact e.bn i b sz h1
    · subst h1
      exact e.bn 0 _ z0 hb0
  · rw [List.length_append, List.length_append, hh.len]
    rfl
  · rcases hdn i b sz hy with h1 | ⟨_, h1⟩
    · exact hh.lt i b sz h1
    · subst h1
      exact hh.lt 0 _ z0 hb0
  · rcases getElem?_append_one hy with h1 | ⟨h1, h2⟩
    · have hb1 : β[i]? = some (b, sz) := by
        rcases hdn i b sz hb with h2 | ⟨h2, _⟩
        · exact h2
        · have h3 := (List.getElem?_eq_some_iff.1 h1).1
          have h4 := hh.len
          omega
      have h2 := (hh.blk i y b sz h1 hb1).ren (β' := β ++ [(b0, z0)]) id (fun j _ z hz => hup j z hz)
      rw [renB_id id _ (fun _ _ => rfl)] at h2
      exact h2
    · subst h2
      trivial
  · rcases hdn i b sz h3 with h5 | ⟨h5, _⟩
    · rcases hdn i' b sz' h4 with h6 | ⟨h6, _⟩
      · exact hh.inj i i' b sz sz' (hlv i h1) (hlv i' h2) h5 h6
      · have := hlt i' (hlv i' h2)
        omega
    · have := hlt i (hlv i h1)
      omega
  · rcases hdn i b sz hy with h1 | ⟨_, h1⟩
    · exact hh.prot i b sz h1
    · subst h1
      exact hh.prot 0 _ z0 hb0
  · have h1 := hl.ren (β' := β ++ [(b0, z0)]) id (fun j _ z hz => hup j z hz)
    rw [renL_id id _ (fun _ _ => rfl)] at h1
    exact h1

end
end Go.Ab
