/- An evaluator of the program over states of which some values are told, and that what it says the program does. -/
import Derived.Test.YthbnhmmdafkcfaaGreatEngD4
import Derived.Orders
set_option linter.unusedVariables false
set_option linter.unusedSimpArgs false
namespace Go.Ab

section
variable {P : Program} {O : Orc}

/-! ### the trace of a run in the text's order -/
structure Trace (P : Program) (O : Orc) (ops : Array Oper) (bs : List Nat) (k : Nat) (rs ms : List (Nat × Foot)) (S : Nat → St) (W : Nat → Bool) (Vf : Nat → V) (i : Nat) (o : Oper) : Prop where
  want : wantE ops o (S i).tm = some (W i)
  put : S (i + 1) = (S i).put o.dst (Vf i) (S (i + 1)).h
  no : W i = false → Vf i = uv ∧ (S (i + 1)).h = (S i).h
  yes : W i = true → opE P O o (S i).ev (S i).h = some (Vf i, (S (i + 1)).h)
  inh : W i = true → Foot.inH (S i).h (rdF P o (S i).ev) = true
  rs : W i = true → ∀ q ∈ rs, waits bs q.1 i = true ∨ ∀ f ∈ modF P o (S i).ev (S i).h, q.2.hits f = false
  ms : W i = true → ∀ q ∈ ms, waits bs q.1 i = true ∨ (rdF P o (S i).ev).hits q.2 = false
  rd : W i = true → ∀ j oj, k ≤ j → j < i → ops[j]? = some oj → W j = true → waits bs j i = true ∨ ∀ f ∈ modF P o (S i).ev (S i).h, (rdF P oj (S j).ev).hits f = false
  md : W i = true → ∀ j oj, k ≤ j → j < i → ops[j]? = some oj → W j = true → ∀ f ∈ modF P oj (S j).ev (S j).h, waits bs j i = true ∨ (rdF P o (S i).ev).hits f = false

theorem draw_trace {ops : Array Oper} {bs : List Nat} {s' : St} : ∀ (rest : List Oper) (k : Nat) (rs ms : List (Nat × Foot)) (s : St), ops.toList.drop k = rest → k ≤ ops.size → drawE P O ops bs rest k rs ms s = some s' →
    ∃ (S : Nat → St) (W : Nat → Bool) (Vf : Nat → V), S k = s ∧ S ops.size = s' ∧ ∀ i o, k ≤ i → ops[i]? = some o → Trace P O ops bs k rs ms S W Vf i o := by
  intro rest
  induction rest with
  | nil =>
    intro k rs ms s hdrop hk he
    simp [drawE] at he
    subst he
    have hsz : ops.size ≤ k := by simpa using List.drop_eq_nil_iff.1 hdrop
    have : k = ops.size := by omega
    exact ⟨fun _ => s, fun _ => false, fun _ => uv, rfl, rfl, fun i o hi ho => by
      rw [Array.getElem?_eq_none (by omega)] at ho; cases ho⟩
  | cons o rest ih =>
    intro k rs ms s hdrop hk he
    have hok : ops[k]? = some o := by
      have : (ops.toList.drop k)[0]? = some o := by rw [hdrop]; rfl
      simpa [List.getElem?_drop] using this
    have hklt : k < ops.size := (Array.getElem?_eq_some_iff.1 hok).1
    have hrest : ops.toList.drop (k + 1) = rest := by
      rw [← List.drop_drop, hdrop]
      rfl
    unfold drawE at he
    cases hw : wantE ops o s.tm with
    | none => rw [hw] at he; cases he
    | some b =>
      rw [hw] at he
      simp only [Option.bind_some] at he
      cases b with
      | false =>
        simp only [Bool.false_eq_true, if_false] at he
        obtain ⟨S, W, Vf, h0, hn, hS⟩ := ih (k + 1) rs ms _ hrest hklt he
        refine ⟨fun i => if i = k then s else S i, fun i => if i = k then false else W i, fun i => if i = k then uv else Vf i, by simp, by simp [show ops.size ≠ k by omega, hn], fun i oi hi hoi => ?_⟩
        by_cases hik : i = k
        · subst hik
          rw [hok] at hoi; injection hoi with hoi; subst hoi
          exact {
            want := by simpa using hw
            put := by simp [h0]; cases o.dst <;> rfl
            no := fun _ => by simp [h0]; cases o.dst <;> rfl
            yes := fun h => by simp at h
            inh := fun h => by simp at h
            rs := fun h => by simp at h
            ms := fun h => by simp at h
            rd := fun h => by simp at h
            md := fun h => by simp at h }
        · have hi1 : i + 1 ≠ k := by omega
          have t := hS i oi (by omega) hoi
          exact {
            want := by simpa [hik] using t.want
            put := by simpa [hik, hi1] using t.put
            no := by simpa [hik, hi1] using t.no
            yes := by simpa [hik, hi1] using t.yes
            inh := by simpa [hik] using t.inh
            rs := by simpa [hik] using t.rs
            ms := by simpa [hik] using t.ms
            rd := fun h j oj hj hji hoj hwj => by
              by_cases hjk : j = k
              · subst hjk; simp at hwj
              · have := t.rd (by simpa [hik] using h) j oj (by omega) hji hoj (by simpa [hjk] using hwj)
                simpa [hik, hjk] using this
            md := fun h j oj hj hji hoj hwj => by
              by_cases hjk : j = k
              · subst hjk; simp at hwj
              · have := t.md (by simpa [hik] using h) j oj (by omega) hji hoj (by simpa [hjk] using hwj)
                simpa [hik, hjk] using this }
      | true =>
        simp only [if_true] at he
        split at he
        · rename_i hc
          simp only [Bool.and_eq_true] at hc
          obtain ⟨⟨hc0, hc1⟩, hc2⟩ := hc
          cases hop : opE P O o s.ev s.h with
          | none => rw [hop] at he; cases he
          | some r =>
            rw [hop] at he
            simp only [Option.bind_some] at he
            obtain ⟨S, W, Vf, h0, hn, hS⟩ := ih (k + 1) _ _ _ hrest hklt he
            have hc1' : ∀ q ∈ rs, waits bs q.1 k = true ∨ ∀ f ∈ modF P o s.ev s.h, q.2.hits f = false := fun q hq => by
              have := List.all_eq_true.1 hc1 q hq
              simpa using this
            have hc2' : ∀ q ∈ ms, waits bs q.1 k = true ∨ (rdF P o s.ev).hits q.2 = false := fun q hq => by
              have := List.all_eq_true.1 hc2 q hq
              simpa using this
            refine ⟨fun i => if i = k then s else S i, fun i => if i = k then true else W i, fun i => if i = k then r.1 else Vf i, by simp, by simp [show ops.size ≠ k by omega, hn], fun i oi hi hoi => ?_⟩
            by_cases hik : i = k
            · subst hik
              rw [hok] at hoi; injection hoi with hoi; subst hoi
              have hh : (s.put o.dst r.1 r.2).h = r.2 := by cases o.dst <;> rfl
              exact {
                want := by simpa using hw
                put := by simp [h0, hh]
                no := fun h => by simp at h
                yes := fun _ => by simp [h0, hh, hop]
                inh := fun _ => by simpa using hc0
                rs := fun _ => by simpa using hc1'
                ms := fun _ => by simpa using hc2'
                rd := fun _ j oj hj hji => by omega
                md := fun _ j oj hj hji => by omega }
            · have hi1 : i + 1 ≠ k := by omega
              have t := hS i oi (by omega) hoi
              exact {
                want := by simpa [hik] using t.want
                put := by simpa [hik, hi1] using t.put
                no := by simpa [hik, hi1] using t.no
                yes := by simpa [hik, hi1] using t.yes
                inh := by simpa [hik] using t.inh
                rs := fun h q hq => by simpa [hik] using t.rs (by simpa [hik] using h) q (List.mem_append.2 (.inl hq))
                ms := fun h q hq => by simpa [hik] using t.ms (by simpa [hik] using h) q (List.mem_append.2 (.inl hq))
                rd := fun h j oj hj hji hoj hwj => by
                  by_cases hjk : j = k
                  · subst hjk
                    rw [hok] at hoj; injection hoj with hoj; subst hoj
                    have := t.rs (by simpa [hik] using h) (j, rdF P o s.ev) (List.mem_append.2 (.inr (by simp)))
                    simpa [hik] using this
                  · have := t.rd (by simpa [hik] using h) j oj (by omega) hji hoj (by simpa [hjk] using hwj)
                    simpa [hik, hjk] using this
                md := fun h j oj hj hji hoj hwj => by
                  by_cases hjk : j = k
                  · subst hjk
                    rw [hok] at hoj; injection hoj with hoj; subst hoj
                    intro f hf
                    have := t.ms (by simpa [hik] using h) (j, f) (List.mem_append.2 (.inr (List.mem_map.2 ⟨f, by simpa using hf, rfl⟩)))
                    simpa [hik] using this
                  · have := t.md (by simpa [hik] using h) j oj (by omega) hji hoj (by simpa [hjk] using hwj)
                    simpa [hik, hjk] using this }
        · cases he

/-! ### what waits for what -/
theorem fold_testBit (l : List Edge) (g : Edge → Nat) (c : Edge → Bool) : ∀ (s i : Nat), (l.foldl (fun s e => if c e then s ||| 2 ^ e.on ||| g e else s) s).testBit i = true ↔ s.testBit i = true ∨ ∃ e ∈ l, c e = true ∧ (e.on = i ∨ (g e).testBit i = true) := by
  induction l with
  | nil => intro s i; simp
  | cons e l ih =>
    intro s i
    rw [List.foldl_cons, ih]
    by_cases hc : c e = true
    · simp only [hc, if_true, Nat.testBit_or, Nat.testBit_two_pow, Bool.or_eq_true, decide_eq_true_eq, List.mem_cons, exists_eq_or_imp, true_and]
      constructor
      · rintro (((h | h) | h) | h)
        · exact .inl h
        · exact .inr (.inl (.inl h))
        · exact .inr (.inl (.inr h))
        · exact .inr (.inr h)
      · rintro (h | (h | h) | h)
        · exact .inl (.inl (.inl h))
        · exact .inl (.inl (.inr h))
        · exact .inl (.inr h)
        · exact .inr h
    · have hc' : c e = false := by simpa using hc
      simp [hc']

theorem befs_spec : ∀ (l : List Oper) (acc : List Nat), (∀ k, k < acc.length → (befs l acc)[k]? = acc[k]?) ∧
    ∀ k o, l[k]? = some o → (befs l acc)[acc.length + k]? = some (o.after.toList.foldl (fun s e => if Region.binds .any e then s ||| 2 ^ e.on ||| (if e.on < acc.length + k then ((befs l acc).getD e.on 0) else 0) else s) 0) := by
  intro l
  induction l with
  | nil => intro acc; exact ⟨fun k _ => rfl, fun k o h => by simp at h⟩
  | cons x l ih =>
    intro acc
    rw [befs]
    generalize hv : (x.after.toList.foldl (fun s e => if Region.binds .any e then s ||| 2 ^ e.on ||| acc.getD e.on 0 else s) 0) = v
    obtain ⟨h1, h2⟩ := ih (acc ++ [v])
    have hacc : ∀ k, k < acc.length → (befs l (acc ++ [v]))[k]? = acc[k]? := fun k hk => by
      rw [h1 k (by simp; omega), List.getElem?_append_left hk]
    refine ⟨hacc, fun k o hk => ?_⟩
    cases k with
    | zero =>
      simp at hk
      subst hk
      rw [Nat.add_zero, h1 acc.length (by simp)]
      simp only [List.getElem?_append_right (Nat.le_refl _), Nat.sub_self, List.getElem?_cons_zero]
      rw [← hv]
      congr 2
      funext s e
      split
      · congr 1
        rw [List.getD_eq_getElem?_getD, List.getD_eq_getElem?_getD]
        split
        · rename_i hlt
          rw [hv, hacc _ hlt]
        · rename_i hlt
          rw [List.getElem?_eq_none (by omega)]
          rfl
      · rfl
    | succ k =>
      simp at hk
      have := h2 k o hk
      simp only [List.length_append, List.length_cons, List.length_nil] at this
      rw [show acc.length + (k + 1) = acc.length + (0 + 1) + k by omega]
      exact this

theorem waits_iff {ops : Array Oper} {k : Nat} {o : Oper} (ho : ops[k]? = some o) (i : Nat) : waits (befs ops.toList []) i k = true ↔ ∃ e ∈ o.after.toList, Region.binds .any e = true ∧ (e.on = i ∨ (e.on < k ∧ waits (befs ops.toList []) i e.on = true)) := by
  have := (befs_spec ops.toList []).2 k o (by simpa using ho)
  simp only [List.length_nil, Nat.zero_add] at this
  unfold waits
  rw [List.getD_eq_getElem?_getD, this, Option.getD_some, fold_testBit]
  simp only [Nat.zero_testBit, Bool.false_eq_true, false_or]
  constructor
  · rintro ⟨e, he, hc, h | h⟩
    · exact ⟨e, he, hc, .inl h⟩
    · split at h
      · rename_i hlt
        exact ⟨e, he, hc, .inr ⟨hlt, h⟩⟩
      · simp at h
  · rintro ⟨e, he, hc, h | ⟨hlt, h⟩⟩
    · exact ⟨e, he, hc, .inl h⟩
    · exact ⟨e, he, hc, .inr (by rw [if_pos hlt]; exact h)⟩

/-- A set that holds what its members wait for directly holds all that they wait for. -/
theorem waits_closed {ops : Array Oper} {L : Nat → Bool} (hcl : ∀ k o, ops[k]? = some o → L k = true → ∀ e ∈ o.after.toList, Region.binds .any e = true → L e.on = true) :
    ∀ (k : Nat) (o : Oper) (i : Nat), ops[k]? = some o → (∀ e ∈ o.after.toList, Region.binds .any e = true → L e.on = true) → waits (befs ops.toList []) i k = true → L i = true := by
  intro k
  induction k using Nat.strongRecOn with
  | _ k ih =>
    intro o i ho hd hw
    obtain ⟨e, he, hc, h | ⟨hlt, h⟩⟩ := (waits_iff ho i).1 hw
    · rw [← h]; exact hd e he hc
    · have hk : k < ops.size := (Array.getElem?_eq_some_iff.1 ho).1
      have ho' : ops[e.on]? = some ops[e.on] := Array.getElem?_eq_getElem (by omega)
      exact ih e.on hlt _ i ho' (hcl e.on _ ho' (hd e he hc)) h

/-! ### temporaries, set one after another -/
def dstAt (ops : Array Oper) (k : Nat) : Option Tmp := (ops[k]?).bind (·.dst)

def put1 (ops : Array Oper) (Vf : Nat → V) (tm : List V) (k : Nat) : List V := match dstAt ops k with | some t => tm.set t (Vf k) | none => tm

def tmF (ops : Array Oper) (Vf : Nat → V) (L : Nat → Bool) : List Nat → List V → List V
  | [], tm => tm
  | k :: l, tm => tmF ops Vf L l (if L k then put1 ops Vf tm k else tm)

theorem put1_length (ops : Array Oper) (Vf : Nat → V) (tm : List V) (k : Nat) : (put1 ops Vf tm k).length = tm.length := by
  unfold put1
  split <;> simp

theorem put1_other {ops : Array Oper} {Vf : Nat → V} {tm : List V} {k d : Nat} (h : dstAt ops k ≠ some d) : (put1 ops Vf tm k)[d]? = tm[d]? := by
  unfold put1
  split
  · rename_i t ht
    rw [List.getElem?_set_ne (fun (e : t = d) => h (e ▸ ht))]
  · rfl

theorem put1_same {ops : Array Oper} {Vf : Nat → V} {tm tm' : List V} {k d : Nat} (hl : tm.length = tm'.length) (h : dstAt ops k = some d) : (put1 ops Vf tm k)[d]? = (put1 ops Vf tm' k)[d]? := by
  unfold put1
  rw [h]
  simp [List.getElem?_set, hl]

theorem tmF_length (ops : Array Oper) (Vf : Nat → V) (L : Nat → Bool) : ∀ (l : List Nat) (tm : List V), (tmF ops Vf L l tm).length = tm.length
  | [], tm => rfl
  | k :: l, tm => by
    rw [tmF, tmF_length ops Vf L l]
    split
    · exact put1_length ..
    · rfl

theorem tmF_agree {ops : Array Oper} {Vf : Nat → V} {L L' : Nat → Bool} {d : Nat} : ∀ (l : List Nat) (tm tm' : List V), tm.length = tm'.length → tm[d]? = tm'[d]? → (∀ k ∈ l, dstAt ops k = some d → L k = L' k) →
    (tmF ops Vf L l tm)[d]? = (tmF ops Vf L' l tm')[d]?
  | [], tm, tm', _, h, _ => h
  | k :: l, tm, tm', hlen, h, hk => by
    rw [tmF, tmF]
    by_cases hd : dstAt ops k = some d
    · rw [← hk k (by simp) hd]
      cases hL : L k
      · simp only [Bool.false_eq_true, if_false]
        exact tmF_agree l _ _ hlen h fun j hj => hk j (by simp [hj])
      · simp only [if_true]
        exact tmF_agree l _ _ (by rw [put1_length, put1_length]; exact hlen) (put1_same hlen hd) fun j hj => hk j (by simp [hj])
    · refine tmF_agree l _ _ ?_ ?_ fun j hj => hk j (by simp [hj])
      · split <;> split <;> simp [put1_length, hlen]
      · split <;> split <;> simp [put1_other hd, h]

theorem tmF_append (ops : Array Oper) (Vf : Nat → V) (L : Nat → Bool) : ∀ (l1 l2 : List Nat) (tm : List V), tmF ops Vf L (l1 ++ l2) tm = tmF ops Vf L l2 (tmF ops Vf L l1 tm)
  | [], l2, tm => rfl
  | k :: l1, l2, tm => by rw [List.cons_append, tmF, tmF, tmF_append ops Vf L l1]

theorem tmF_none {ops : Array Oper} {Vf : Nat → V} {L : Nat → Bool} {d : Nat} : ∀ (l : List Nat) (tm : List V), (∀ k ∈ l, dstAt ops k = some d → L k = false) → (tmF ops Vf L l tm)[d]? = tm[d]?
  | [], tm, _ => rfl
  | k :: l, tm, h => by
    rw [tmF, tmF_none l _ fun j hj => h j (by simp [hj])]
    cases hL : L k
    · rfl
    · simp only [if_true]
      exact put1_other fun hd => by rw [h k (by simp) hd] at hL; cases hL

/-- One more. -/
theorem tmF_step {ops : Array Oper} {Vf : Nat → V} {L L' : Nat → Bool} {i n : Nat} (hi : i < n) (hL : L i = false) (hL' : L' i = true) (hne : ∀ k, k ≠ i → L' k = L k) (tm : List V)
    (hlate : ∀ k, i < k → k < n → L k = true → ∀ d, dstAt ops i = some d → dstAt ops k ≠ some d) : tmF ops Vf L' (List.range n) tm = put1 ops Vf (tmF ops Vf L (List.range n) tm) i := by
  apply List.ext_getElem?
  intro d
  by_cases hd : dstAt ops i = some d
  · have hsplit : List.range n = List.range i ++ i :: List.range' (i + 1) (n - i - 1) := by
      rw [List.range_eq_range', List.range_eq_range']
      rw [show n = i + ((n - i - 1) + 1) by omega]
      rw [← List.range'_append_1, List.range'_succ]
      simp
    rw [hsplit, tmF_append, tmF_append, tmF, tmF, hL, hL']
    simp only [if_true, Bool.false_eq_true, if_false]
    rw [tmF_none _ _ fun k hk hkd => by
      have hk' := List.mem_range'_1.1 hk
      rw [hne k (by omega)]
      by_cases hLk : L k = true
      · exact absurd hkd (hlate k (by omega) (by omega) hLk d hd)
      · simpa using hLk]
    refine put1_same ?_ hd
    rw [tmF_length, tmF_length, tmF_length]
  · rw [put1_other hd]
    refine tmF_agree _ _ _ rfl rfl fun k hk hkd => hne k fun e => ?_
    subst e
    exact hd hkd

end
end Go.Ab
