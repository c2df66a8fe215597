/- An evaluator of the program over states of which some values are told, and that what it says the program does. -/
import Derived.Test.YthbnhmmdafkcfaaGreatEngA3
import Derived.ChangeKeysEq
import Derived.Laws.Pointers
import Derived.WalkSpells
set_option linter.unusedVariables false
set_option linter.unusedSimpArgs false
namespace Go.Ab

theorem tyI_spec' {P : Program} {t : TypeId} {ti : TI} (h : tyI P t = some ti) : ∃ i d z, P.info? t = some i ∧ P.underlying t = some d ∧ i.zero = some z ∧ ti.d = tdOf P d ∧ ti.size = i.size ∧ ti.bytes = i.bytes ∧ ti.zero = (ofVal z).cells ∧
    ti.eqk = (if P.eqGuardType P.depth t = false ∧ aggT P t = true then leaves P 20 t else none) ∧ okD P d = true := by
  unfold tyI at h
  split at h
  · rename_i i d hi hd
    split at h
    · rename_i z hz
      split at h
      · cases h
      · rename_i hok
        injection h with h
        subst h
        exact ⟨i, d, z, hi, hd, hz, rfl, rfl, rfl, rfl, rfl, by simpa using hok⟩
    · cases h
  · cases h

theorem tyI_spec {P : Program} {t : TypeId} {ti : TI} (h : tyI P t = some ti) : ∃ i d z, P.info? t = some i ∧ P.underlying t = some d ∧ i.zero = some z ∧ ti.d = tdOf P d ∧ ti.size = i.size ∧ ti.bytes = i.bytes ∧ ti.zero = (ofVal z).cells ∧
    ti.eqk = (if P.eqGuardType P.depth t = false ∧ aggT P t = true then leaves P 20 t else none) := by
  obtain ⟨i, d, z, h1, h2, h3, h4, h5, h6, h7, h8, _⟩ := tyI_spec' h
  exact ⟨i, d, z, h1, h2, h3, h4, h5, h6, h7, h8⟩

theorem cellsOf_szT {P : Program} {t : TypeId} : P.cellsOf t = szT P t := by
  unfold Program.cellsOf szT
  cases P.info? t <;> rfl

theorem szT_of {P : Program} {t : TypeId} {i : TypeInfo} (h : P.info? t = some i) : szT P t = i.size := by simp [szT, h]

theorem run_sizeOf' {P : Program} (w : World) {t : TypeId} {i : TypeInfo} (h : P.info? t = some i) : (sizeOf t).run P w = .ok i.size w := by simp [sizeOf, typeInfo, h]
theorem run_typeInfo' {P : Program} (w : World) {t : TypeId} {i : TypeInfo} (h : P.info? t = some i) : (typeInfo t).run P w = .ok i w := by simp [typeInfo, h]
theorem run_isAgg' {P : Program} (w : World) {t : TypeId} {d : TypeDesc} (h : P.underlying t = some d) : (isAgg t).run P w = .ok (aggD d) w := by
  unfold isAgg
  rw [Sem.run_bind, run_underlying h w]
  cases d <;> rfl

theorem aggD_td {P : Program} {d : TypeDesc} : (tdOf P d).agg = aggD d := by cases d <;> rfl
theorem aggT_of {P : Program} {t : TypeId} {d : TypeDesc} (h : P.underlying t = some d) : aggT P t = aggD d := by simp [aggT, h]

/-- The datum of a type over its cells. -/
def wrapA (agg : Bool) (us : List Value) : Value := if agg then .agg us.toArray else us.headD undef

theorem run_part' {P : Program} (w : World) {t : TypeId} {d : TypeDesc} {i : TypeInfo} (hd : P.underlying t = some d) (hi : P.info? t = some i) (cs : List Value) (off : Nat) (hl : off + i.size ≤ cs.length) (h1 : aggD d = false → i.size = 1) :
    (part t cs.toArray off).run P w = .ok (wrapA (aggD d) ((cs.drop off).take i.size)) w := by
  unfold part
  rw [Sem.run_bind, run_isAgg' w hd]
  simp only [Result.andThen_ok]
  cases ha : aggD d with
  | true =>
    simp only [if_true, Sem.run_bind, run_sizeOf' w hi, Result.andThen_ok, Sem.run_pure, wrapA]
    congr 2
    simp [List.extract_eq_take_drop]
  | false =>
    have := h1 ha
    simp only [Bool.false_eq_true, if_false, wrapA]
    have hlt : off < cs.length := by omega
    rw [List.getElem?_toArray, List.getElem?_eq_getElem hlt]
    rw [List.drop_eq_getElem_cons hlt, this]
    rfl

/-! ### '==' of structs and arrays -/
def eqLv : List LK → List Value → List Value → Option Bool
  | [], [], [] => some true
  | l :: ls, a :: xs, b :: ys => (eqS l a b).bind fun t => (eqLv ls xs ys).map fun u => t && u
  | _, _, _ => none

theorem eqLv_len : ∀ {ls : List LK} {xs ys : List Value} {r : Bool}, eqLv ls xs ys = some r → xs.length = ls.length ∧ ys.length = ls.length
  | [], [], [], _, _ => ⟨rfl, rfl⟩
  | l :: ls, a :: xs, b :: ys, r, h => by
    simp only [eqLv] at h
    cases he : eqS l a b with
    | none => simp [he] at h
    | some t =>
      simp only [he, Option.bind_some] at h
      cases hr : eqLv ls xs ys with
      | none => simp [hr] at h
      | some u => obtain ⟨h1, h2⟩ := eqLv_len hr; simp [h1, h2]
  | [], [], _ :: _, _, h => by simp [eqLv] at h
  | [], _ :: _, _, _, h => by simp [eqLv] at h
  | _ :: _, [], _, _, h => by simp [eqLv] at h
  | _ :: _, _ :: _, [], _, h => by simp [eqLv] at h

theorem eqLv_append : ∀ (l1 l2 : List LK) (us vs : List Value) (r : Bool), eqLv (l1 ++ l2) us vs = some r →
    ∃ r1 r2, eqLv l1 (us.take l1.length) (vs.take l1.length) = some r1 ∧ eqLv l2 (us.drop l1.length) (vs.drop l1.length) = some r2 ∧ r = (r1 && r2)
  | [], l2, us, vs, r, h => ⟨true, r, rfl, h, by simp⟩
  | l :: l1, l2, us, vs, r, h => by
    cases us with
    | nil => simp [eqLv] at h
    | cons a us =>
      cases vs with
      | nil => simp [eqLv] at h
      | cons b vs =>
        simp only [List.cons_append, eqLv] at h
        cases he : eqS l a b with
        | none => simp [he] at h
        | some t =>
          simp only [he, Option.bind_some] at h
          cases hr : eqLv (l1 ++ l2) us vs with
          | none => simp [hr] at h
          | some u =>
            simp only [hr, Option.map_some, Option.some.injEq] at h
            obtain ⟨r1, r2, h1, h2, h3⟩ := eqLv_append l1 l2 us vs u hr
            exact ⟨t && r1, r2, by simp [eqLv, he, h1], by simpa using h2, by rw [← h, h3, Bool.and_assoc]⟩

theorem leafF_append {f : TypeId → Option (List LK)} {x : Field} {xs : List Field} {ls : List LK} (h : leaves.leafF f (x :: xs) = some ls) :
    x.name ≠ "_" ∧ ∃ a b, f x.type = some a ∧ leaves.leafF f xs = some b ∧ ls = a ++ b := by
  unfold leaves.leafF at h
  split at h
  · cases h
  · rename_i hn
    refine ⟨hn, ?_⟩
    cases ha : f x.type with
    | none => simp [ha] at h
    | some a =>
      cases hb : leaves.leafF f xs with
      | none => simp [ha, hb] at h
      | some b => simp [ha, hb] at h; exact ⟨a, b, rfl, rfl, h.symm⟩

theorem leaves_len {P : Program} : ∀ (n : Nat) (t : TypeId) (ls : List LK), leaves P n t = some ls → ls.length = szT P t ∧ (∃ d, P.underlying t = some d ∧ (aggD d = false → szT P t = 1)) ∧ (∃ i, P.info? t = some i) := by
  intro n
  induction n with
  | zero => intro t ls h; simp [leaves] at h
  | succ n ih =>
    intro t ls h
    have hinfo : szT P t = 1 → ∃ i, P.info? t = some i := by
      intro h0
      unfold szT at h0
      cases hi : P.info? t with
      | none => simp [hi] at h0
      | some i => exact ⟨i, rfl⟩
    unfold leaves at h
    split at h
    · rename_i ht; split at h <;> simp at h; subst h; rename_i h1; exact ⟨by simp [h1], ⟨_, ht, fun _ => h1⟩, hinfo h1⟩
    · rename_i k ht; split at h <;> simp at h; subst h; rename_i h1; exact ⟨by simp [h1], ⟨_, ht, fun _ => h1⟩, hinfo h1⟩
    · rename_i ht; split at h <;> simp at h; subst h; rename_i h1; exact ⟨by simp [h1], ⟨_, ht, fun _ => h1⟩, hinfo h1⟩
    · rename_i fs ht
      split at h
      · rename_i hc
        obtain ⟨hs, _, hc⟩ := hc
        refine ⟨?_, ⟨_, ht, fun h => by simp [aggD] at h⟩, Option.isSome_iff_exists.1 hs⟩
        have key : ∀ (l : List Field) (acc tot : Nat) (ls : List LK), contig P acc l = some tot → leaves.leafF (leaves P n) l = some ls → acc + ls.length = tot := by
          intro l
          induction l with
          | nil => intro acc tot ls h1 h2; simp [contig] at h1; simp [leaves.leafF] at h2; subst h2; simp [h1]
          | cons x xs ihl =>
            intro acc tot ls h1 h2
            obtain ⟨_, a, b, ha, hb, rfl⟩ := leafF_append h2
            unfold contig at h1
            split at h1
            · have := ihl _ _ _ h1 hb
              have := (ih _ _ ha).1
              simp; omega
            · cases h1
        have := key _ 0 _ _ hc h
        omega
      · cases h
    · rename_i m e ht
      split at h
      · rename_i hc
        obtain ⟨hi, hc⟩ := hc
        cases hl : leaves P n e with
        | none => simp [hl] at h
        | some l =>
          simp [hl] at h
          subst h
          refine ⟨by simp [(ih _ _ hl).1, hc], ⟨_, ht, fun h => by simp [aggD] at h⟩, Option.isSome_iff_exists.1 hi⟩
      · cases h
    · cases h

theorem contig_le {P : Program} : ∀ (l : List Field) (acc tot : Nat), contig P acc l = some tot → acc ≤ tot
  | [], acc, tot, h => by simp [contig] at h; omega
  | x :: xs, acc, tot, h => by
    unfold contig at h
    split at h
    · have := contig_le xs _ _ h; omega
    · cases h

theorem leaves_run {P : Program} (w : World) : ∀ (n : Nat) (t : TypeId) (ls : List LK) (us vs : List Value) (b : Bool) (d : Nat), n ≤ d → leaves P n t = some ls → eqLv ls us vs = some b →
    (Op.equalIn d t (wrapA (aggT P t) us) (wrapA (aggT P t) vs)).run P w = .ok b w := by
  intro n
  induction n with
  | zero => intro t ls us vs b d _ h; simp [leaves] at h
  | succ n ih =>
    intro t ls us vs b d hd he hb
    obtain ⟨d, rfl⟩ : ∃ k, d = k + 1 := ⟨d - 1, by omega⟩
    have hlen := eqLv_len hb
    have he0 := he
    unfold leaves at he
    split at he
    · rename_i ht
      split at he <;> simp at he
      subst he
      obtain ⟨u, rfl⟩ := List.length_eq_one_iff.1 hlen.1
      obtain ⟨v, rfl⟩ := List.length_eq_one_iff.1 hlen.2
      simp only [aggT_of ht, aggD, wrapA, Bool.false_eq_true, if_false, List.headD_cons]
      cases u <;> simp [eqLv, eqS] at hb
      cases v <;> simp at hb
      rename_i x y
      subst hb
      exact run_equalIn_bool' w d t x y ht
    · rename_i k ht
      split at he <;> simp at he
      subst he
      obtain ⟨u, rfl⟩ := List.length_eq_one_iff.1 hlen.1
      obtain ⟨v, rfl⟩ := List.length_eq_one_iff.1 hlen.2
      simp only [aggT_of ht, aggD, wrapA, Bool.false_eq_true, if_false, List.headD_cons]
      cases u <;> simp only [eqLv, eqS, Option.bind_none] at hb <;> try (cases hb; done)
      cases v <;> simp only [Option.bind_none] at hb <;> try (cases hb; done)
      rename_i j x j' y
      by_cases hk : j = k ∧ j' = k
      · obtain ⟨rfl, rfl⟩ := hk
        simp at hb
        subst hb
        exact run_equalIn_int w d t _ _ x y ht
      · simp [hk] at hb
    · rename_i ht
      split at he <;> simp at he
      subst he
      obtain ⟨u, rfl⟩ := List.length_eq_one_iff.1 hlen.1
      obtain ⟨v, rfl⟩ := List.length_eq_one_iff.1 hlen.2
      simp only [aggT_of ht, aggD, wrapA, Bool.false_eq_true, if_false, List.headD_cons]
      cases u <;> simp [eqLv, eqS] at hb
      cases v <;> simp at hb
      rename_i x y
      rw [← hb]
      exact run_equalIn_string w d t x y ht
    · rename_i fs ht
      split at he
      · rename_i hc
        obtain ⟨hsome, hst, hc⟩ := hc
        have hf : P.fieldsOf t = fs := by simp [Program.fieldsOf, ht]
        have hdd : n ≤ d := by omega
        have key : ∀ (l : List Field) (acc tot : Nat) (ls : List LK) (b : Bool), contig P acc l = some tot → leaves.leafF (leaves P n) l = some ls → eqLv ls (us.drop acc) (vs.drop acc) = some b → tot = us.length → tot = vs.length →
            (Op.eqFields d us.toArray vs.toArray l).run P w = .ok b w := by
          intro l
          induction l with
          | nil =>
            intro acc tot ls b h1 h2 h3 h4 h5
            simp [contig] at h1
            simp [leaves.leafF] at h2
            subst h1 h2
            rw [List.drop_eq_nil_of_le (by omega), List.drop_eq_nil_of_le (by omega)] at h3
            simp [eqLv] at h3
            subst h3
            simp [Op.eqFields]
          | cons x xs ihl =>
            intro acc tot ls b h1 h2 h3 h4 h5
            obtain ⟨hn, a, c, ha, hcc, rfl⟩ := leafF_append h2
            unfold contig at h1
            split at h1
            · rename_i hoff
              obtain ⟨hal, ⟨dx, hdx, hd1⟩, hix⟩ := leaves_len _ _ _ ha
              obtain ⟨r1, r2, q1, q2, rfl⟩ := eqLv_append _ _ _ _ _ h3
              have hbound : acc + szT P x.type ≤ tot := by
                have := contig_le _ _ _ h1
                omega
              have hi := hix
              obtain ⟨i, hi⟩ := hi
              have hsz := szT_of hi
              have p1 := run_part' (P := P) w hdx hi us acc (by omega) (fun h => by rw [← hsz]; exact hd1 h)
              have p2 := run_part' (P := P) w hdx hi vs acc (by omega) (fun h => by rw [← hsz]; exact hd1 h)
              rw [← hsz] at p1 p2
              have q := ih x.type a _ _ r1 d hdd ha (by rw [hal] at q1; exact q1)
              rw [aggT_of hdx] at q
              rw [hal, List.drop_drop, List.drop_drop] at q2
              have hrest := ihl (acc + szT P x.type) tot c r2 h1 hcc q2 h4 h5
              simp only [Op.eqFields, hn, ne_eq, not_false_eq_true, if_true, Sem.run_bind, hoff, p1, p2, Result.andThen_ok, q]
              cases r1
              · simp
              · simpa using hrest
            · cases h1
        have ha : aggT P t = true := by rw [aggT_of ht]; rfl
        rw [ha]
        simp only [wrapA, if_true]
        rw [run_equalIn_struct w d t _ _ (by rw [hf]; exact ht) hst, hf]
        have hl1 := (leaves_len (n + 1) t ls he0).1
        exact key fs.toList 0 _ ls b hc he (by simpa using hb) (by omega) (by omega)
      · cases he
    · rename_i m e ht
      split at he
      · rename_i hc
        obtain ⟨_, hc⟩ := hc
        cases hl : leaves P n e with
        | none => simp [hl] at he
        | some l =>
          simp [hl] at he
          subst he
          have ha : aggT P t = true := by rw [aggT_of ht]; rfl
          rw [ha]
          simp only [wrapA, if_true]
          obtain ⟨hal, ⟨dx, hdx, hd1⟩, i, hi⟩ := leaves_len _ _ _ hl
          rw [run_equalIn_array w d _ _ ht hi, cellsOf_szT]
          have hsz := szT_of hi
          have key : ∀ (k j : Nat) (b : Bool), j + k = m → eqLv (List.replicate k l).flatten (us.drop (j * szT P e)) (vs.drop (j * szT P e)) = some b →
              (Op.eqItems d e (szT P e) us.toArray vs.toArray (List.range' j k)).run P w = .ok b w := by
            intro k
            induction k with
            | zero =>
              intro j b hj h3
              have hl2 := eqLv_len h3
              simp at hl2
              have h1 : us.drop (j * szT P e) = [] := List.eq_nil_of_length_eq_zero (by rw [List.length_drop]; exact hl2.1)
              have h2 : vs.drop (j * szT P e) = [] := List.eq_nil_of_length_eq_zero (by rw [List.length_drop]; exact hl2.2)
              simp [h1, h2, eqLv] at h3
              subst h3
              simp [Op.eqItems]
            | succ k ihk =>
              intro j b hj h3
              rw [List.replicate_succ, List.flatten_cons] at h3
              obtain ⟨r1, r2, q1, q2, rfl⟩ := eqLv_append _ _ _ _ _ h3
              have hmul : j * szT P e + szT P e ≤ m * szT P e := by rw [← Nat.succ_mul]; exact Nat.mul_le_mul_right _ (by omega)
              have hus : us.length = m * szT P e := by have := hlen.1; simp [hal] at this; exact this
              have hvs : vs.length = m * szT P e := by have := hlen.2; simp [hal] at this; exact this
              have p1 := run_part' (P := P) w hdx hi us (j * szT P e) (by omega) (fun h => by rw [← hsz]; exact hd1 h)
              have p2 := run_part' (P := P) w hdx hi vs (j * szT P e) (by omega) (fun h => by rw [← hsz]; exact hd1 h)
              rw [← hsz] at p1 p2
              have q := ih e l _ _ r1 d (by omega) hl (by rw [hal] at q1; exact q1)
              rw [aggT_of hdx] at q
              rw [hal, List.drop_drop, List.drop_drop, show j * szT P e + szT P e = (j + 1) * szT P e from by rw [Nat.add_mul, Nat.one_mul]] at q2
              have hrest := ihk (j + 1) r2 (by omega) q2
              simp only [List.range'_succ, Op.eqItems, Sem.run_bind, p1, p2, Result.andThen_ok, q]
              cases r1
              · simp
              · simpa using hrest
          rw [List.range_eq_range']
          exact key m 0 b (by omega) (by simpa using hb)
      · cases he
    · cases he

end Go.Ab

set_option linter.unusedVariables false
set_option linter.unusedSimpArgs false
namespace Go.Ab

section
variable {P : Program} {w : World} {Pr : Nat → Prop} {β : Bt}

theorem RV.sc_inv {v u : Value} (h : RV w Pr β (.tr (.sc v)) u) : u = v := by
  cases h with
  | tr h => cases h; rfl

theorem RV.mk_sc (v : Value) : RV w Pr β (.tr (.sc v)) v := .tr (.sc v)

theorem RL.cons_inv {v : V} {vs : List V} {us : List Value} (h : RL w Pr β (v :: vs) us) : ∃ u us', us = u :: us' ∧ RV w Pr β v u ∧ RL w Pr β vs us' := by
  obtain ⟨hl, hr⟩ := h
  cases us with
  | nil => simp at hl
  | cons u us => exact ⟨u, us, rfl, hr 0 v u rfl rfl, by simpa using hl, fun k v' u' h1 h2 => hr (k + 1) v' u' (by simpa using h1) (by simpa using h2)⟩

theorem RL.nil_inv {us : List Value} (h : RL w Pr β [] us) : us = [] := List.eq_nil_of_length_eq_zero h.1

theorem RL.nil : RL w Pr β [] [] := ⟨rfl, fun k v u h => by simp at h⟩

theorem RL.cons {v : V} {vs : List V} {u : Value} {us : List Value} (h : RV w Pr β v u) (t : RL w Pr β vs us) : RL w Pr β (v :: vs) (u :: us) :=
  ⟨by simp [t.1], fun k x y h1 h2 => by
    cases k with
    | zero => simp at h1 h2; subst h1 h2; exact h
    | succ k => exact t.2 k x y (by simpa using h1) (by simpa using h2)⟩

theorem RL.append {a b : List V} {x y : List Value} (h : RL w Pr β a x) (k : RL w Pr β b y) : RL w Pr β (a ++ b) (x ++ y) := by
  refine ⟨by simp [h.1, k.1], fun i v u h1 h2 => ?_⟩
  rw [List.getElem?_append] at h1 h2
  rw [h.1] at h2
  split at h1
  · rename_i hi; rw [if_pos hi] at h2; exact h.2 i v u h1 h2
  · rename_i hi; rw [if_neg hi] at h2; exact k.2 _ v u h1 h2

theorem RL.drop {a : List V} {x : List Value} (h : RL w Pr β a x) (n : Nat) : RL w Pr β (a.drop n) (x.drop n) :=
  ⟨by simp [h.1], fun k v u h1 h2 => by rw [List.getElem?_drop] at h1 h2; exact h.2 _ v u h1 h2⟩

theorem RL.take {a : List V} {x : List Value} (h : RL w Pr β a x) (n : Nat) : RL w Pr β (a.take n) (x.take n) :=
  ⟨by simp [h.1], fun k v u h1 h2 => by
    rw [List.getElem?_take] at h1 h2
    split at h1
    · rename_i hk; rw [if_pos hk] at h2; exact h.2 _ v u h1 h2
    · cases h1⟩

theorem RL.get {a : List V} {x : List Value} (h : RL w Pr β a x) {k : Nat} {v : V} (hk : a[k]? = some v) : ∃ u, x[k]? = some u ∧ RV w Pr β v u := by
  have hlt : k < x.length := by rw [h.1]; exact (List.getElem?_eq_some_iff.1 hk).1
  exact ⟨x[k], List.getElem?_eq_getElem hlt, h.2 k v _ hk (List.getElem?_eq_getElem hlt)⟩

theorem RL.set {a : List V} {x : List Value} (h : RL w Pr β a x) {k : Nat} {v : V} {u : Value} (hv : RV w Pr β v u) : RL w Pr β (a.set k v) (x.set k u) := by
  refine ⟨by simp [h.1], fun i v' u' h1 h2 => ?_⟩
  by_cases hi : i = k
  · subst hi
    have hlt : i < a.length := by have := (List.getElem?_eq_some_iff.1 h1).1; simpa using this
    rw [List.getElem?_set_self hlt] at h1
    rw [List.getElem?_set_self (by rw [h.1]; exact hlt)] at h2
    injection h1 with h1
    injection h2 with h2
    subst h1 h2
    exact hv
  · rw [List.getElem?_set_ne (Ne.symm hi)] at h1 h2
    exact h.2 i v' u' h1 h2

theorem RL.map {α : Type} {l : List α} {f : α → V} {g : α → Value} (h : ∀ x ∈ l, RV w Pr β (f x) (g x)) : RL w Pr β (l.map f) (l.map g) :=
  ⟨by simp, fun k v u h1 h2 => by
    rw [List.getElem?_map] at h1 h2
    cases hk : l[k]? with
    | none => simp [hk] at h1
    | some x => simp [hk] at h1 h2; subst h1 h2; exact h x (List.mem_of_getElem? hk)⟩

/-- The cells of a value. -/
theorem RV.cells {v : V} {u : Value} (h : RV w Pr β v u) (h1 : v.cells.all V.one = true ∨ (∃ cs, v = .agg cs)) : RL w Pr β v.cells u.cells.toList := by
  cases h with
  | agg us l h => exact ⟨by simp [V.cells, Value.cells, l], by simpa [V.cells, Value.cells] using h⟩
  | tr h =>
    rename_i t
    rcases h1 with h1 | ⟨cs, h1⟩
    · cases t with
      | sc z =>
        cases h
        simp [V.cells, V.one] at h1
        cases u <;> simp [Value.oneCell'] at h1 <;> exact RL.cons (.tr (.sc _)) .nil
      | sl sz es => cases h with
        | nl _ A c => exact RL.cons (.tr (.nl sz A c)) .nil
        | sl _ _ b o n c f hn hc hp hs hw hr => exact RL.cons (.tr (.sl sz es b o n c f hn hc hp hs hw hr)) .nil
    · cases h1
  | ptr h => exact RL.cons (.ptr h) .nil
  | ep f q1 q2 q3 => exact RL.cons (.ep f q1 q2 q3) .nil
  | row h hn hc ha hs => exact RL.cons (.row h hn hc ha hs) .nil
  | fn va vb la lb ha hb => exact RL.cons (.fn va vb la lb ha hb) .nil
  | mth u h => exact RL.cons (.mth u h) .nil
  | mp h => exact RL.cons (.mp h) .nil
  | it h => exact RL.cons (.it h) .nil
  | ifc h => exact RL.cons (.ifc h) .nil
  | tup us l h => rcases h1 with h1 | ⟨cs, h1⟩ <;> simp [V.cells, V.one] at h1
  | dead => rcases h1 with h1 | ⟨cs, h1⟩ <;> simp [V.cells, V.one] at h1

theorem RV.one {v : V} {u : Value} (h : RV w Pr β v u) (h1 : v.one = true) : u.oneCell' = true := by
  cases h with
  | tr h =>
    rename_i t
    cases t with
    | sc z => cases h; exact h1
    | sl sz es => cases h <;> rfl
  | agg us l h => simp [V.one] at h1
  | tup us l h => simp [V.one] at h1
  | dead => simp [V.one] at h1
  | ptr h => rfl
  | ep f h1 h2 h3 => rfl
  | row h hn hc ha hs => rfl
  | fn va vb la lb ha hb => rfl
  | mth u h => rfl
  | mp h => rfl
  | it h => rfl
  | ifc h => rfl

theorem RL.one {vs : List V} {us : List Value} (h : RL w Pr β vs us) (h1 : vs.all V.one = true) : ∀ u ∈ us, u.oneCell' = true := by
  intro u hu
  obtain ⟨k, hk, rfl⟩ := List.mem_iff_getElem.1 hu
  have hkv : k < vs.length := by rw [← h.1]; exact hk
  exact (h.2 k vs[k] us[k] (List.getElem?_eq_getElem hkv) (List.getElem?_eq_getElem hk)).one (List.all_eq_true.1 h1 _ (List.getElem_mem hkv))

/-- Aggregates of values. -/
theorem RV.mk_agg {vs : List V} {us : List Value} (h : RL w Pr β vs us) : RV w Pr β (.agg vs) (.agg us.toArray) := .agg us h.1 h.2
theorem RV.mk_tup {vs : List V} {us : List Value} (h : RL w Pr β vs us) : RV w Pr β (.tup vs) (.tuple us.toArray) := .tup us h.1 h.2

theorem RV.agg_inv {vs : List V} {u : Value} (h : RV w Pr β (.agg vs) u) : ∃ us : List Value, u = .agg us.toArray ∧ RL w Pr β vs us := by
  cases h with
  | agg us l h => exact ⟨us, rfl, l, h⟩
theorem RV.tup_inv {vs : List V} {u : Value} (h : RV w Pr β (.tup vs) u) : ∃ us : List Value, u = .tuple us.toArray ∧ RL w Pr β vs us := by
  cases h with
  | tup us l h => exact ⟨us, rfl, l, h⟩

theorem RV.row_inv {i j n c : Nat} {u : Value} (h : RV w Pr β (.row i j n c) u) : ∃ (A : Option Addr) (cap b sz : Nat), u = .slice A n cap ∧ β[i]? = some (b, sz) ∧ n ≤ cap ∧ c ≤ cap ∧ (0 < cap → A = some ⟨b, j * sz, none⟩) ∧
    (∀ cs t fz, w.heap[b]? = some (.cells cs t fz) → (j + cap) * sz ≤ cs.size) := by
  cases h with
  | row h hn hc ha hs => exact ⟨_, _, _, _, rfl, h, hn, hc, ha, hs⟩

theorem RV.ofVal (z : Value) : RV w Pr β (Ab.ofVal z) z := by
  cases z with
  | agg cs =>
    have : RL w Pr β (cs.toList.map sc) cs.toList := by
      have := RL.map (w := w) (Pr := Pr) (β := β) (l := cs.toList) (f := sc) (g := id) (fun x _ => RV.mk_sc x)
      simpa using this
    simpa [Ab.ofVal] using RV.mk_agg this
  | _ => exact .tr (.sc _)

theorem RL.zero (z : Value) : RL w Pr β (Ab.ofVal z).cells z.cells.toList := by
  cases z with
  | agg cs =>
    have := RL.map (w := w) (Pr := Pr) (β := β) (l := cs.toList) (f := sc) (g := id) (fun x _ => RV.mk_sc x)
    simpa [Ab.ofVal, V.cells, Value.cells] using this
  | _ => exact RL.cons (.tr (.sc _)) .nil

/-! ### binOp -/
theorem eqL_eqLv : ∀ {ls : List LK} {xs ys : List V} {us vs : List Value} {b : Bool}, RL w Pr β xs us → RL w Pr β ys vs → eqL ls xs ys = some b → eqLv ls us vs = some b
  | [], [], [], us, vs, b, hx, hy, h => by
    rw [hx.nil_inv, hy.nil_inv]
    simpa [eqL, eqLv] using h
  | l :: ls, x :: xs, y :: ys, us, vs, b, hx, hy, h => by
    obtain ⟨u, us, rfl, h1, h2⟩ := hx.cons_inv
    obtain ⟨v, vs, rfl, h3, h4⟩ := hy.cons_inv
    unfold eqL at h
    split at h
    · rename_i q1 q2 q3; cases q1
    · rename_i l' ls' a xs' c ys' q1 q2 q3
      injection q1 with q1 q1'
      injection q2 with q2 q2'
      injection q3 with q3 q3'
      subst q1 q1' q2 q2' q3 q3'
      rw [h1.sc_inv, h3.sc_inv]
      simp only [eqLv]
      cases he : eqS l a c with
      | none => simp [he] at h
      | some t =>
        simp only [he, Option.bind_some] at h ⊢
        cases hr : eqL ls xs ys with
        | none => simp [hr] at h
        | some z => rw [eqL_eqLv h2 h4 hr]; simpa [hr] using h
    · cases h
  | [], [], _ :: _, _, _, _, _, _, h => by simp [eqL] at h
  | [], _ :: _, _, _, _, _, _, _, h => by simp [eqL] at h
  | _ :: _, [], _, _, _, _, _, _, h => by simp [eqL] at h
  | _ :: _, _ :: _, [], _, _, _, _, _, h => by simp [eqL] at h

theorem run_equal' (t : TypeId) (x y : Value) : (Op.equal t x y).run P w = (Op.equalIn (9999 + 1) t x y).run P w := rfl

theorem eqNeq_run {op : BinOp} {b : Bool} {v : V} (h : eqNeq op b = some v) {t : TypeId} {x y : Value} (hx : ∀ op, op = .eql ∨ op = .neq → (binOp op t x y).run P w = ((Op.equal t x y).run P w).andThen fun r w' => .ok (.bool (if op = .eql then r else !r)) w')
    (he : (Op.equal t x y).run P w = .ok b w) : ∃ u, (binOp op t x y).run P w = .ok u w ∧ RV w Pr β v u := by
  cases op <;> simp [eqNeq] at h
  all_goals
    subst h
    exact ⟨_, by rw [hx _ (by simp), he]; rfl, RV.mk_sc _⟩

theorem binOp_int {op : BinOp} {t : TypeId} {k : IntKind} {a b : Int} {v : Value} (hs : isShift op = false) (h : binI op k a b = some v) : (binOp op t (.int k a) (.int k b)).run P w = .ok v w := by
  cases op <;> simp [isShift] at hs <;> simp [binI] at h
  case add => subst h; simp [binOp, Op.intArith]
  case sub => subst h; simp [binOp, Op.intArith]
  case mul => subst h; simp [binOp, Op.intArith]
  case quo => obtain ⟨h0, rfl⟩ := h; simp [binOp, Op.intDiv, h0]
  case rem => obtain ⟨h0, rfl⟩ := h; simp [binOp, Op.intDiv, h0]
  case and => subst h; simp [binOp_and, intBits_and]
  case or => subst h; simp [binOp_or, intBits_or]
  case xor => subst h; simp [binOp_xor, intBits_xor]
  all_goals subst h; simp [binOp, Op.intCmp]

theorem binOp_sh {op : BinOp} {t : TypeId} {k k' : IntKind} {a b : Int} {v : Value} (hs : isShift op = true) (h : shI op k a b = some v) : (binOp op t (.int k a) (.int k' b)).run P w = .ok v w := by
  unfold shI at h
  split at h
  · cases h
  · rename_i hb
    cases op <;> simp [isShift] at hs <;> simp at h
    case shl => subst h; simp [binOp, Op.shift, hb]
    case shr => subst h; simp [binOp, Op.shift, hb]

theorem binOp_str {op : BinOp} {t : TypeId} {a b : ByteArray} {v : Value} (h : strS op a b = some v) : (binOp op t (.string a) (.string b)).run P w = .ok v w := by
  cases op <;> simp [strS] at h
  case add =>
    obtain ⟨h0, rfl⟩ := h
    have h1 : ¬ (((a.size + b.size : Nat) : Int) > IntKind.i64.max) := by rw [IntKind.max_i64]; omega
    simp only [binOp, Op.stringOp, if_neg h1, Sem.run_pure]
  case eql => subst h; simp [binOp, Op.stringOp]
  case neq => subst h; simp [binOp, Op.stringOp]

theorem equalIn_ptr_nil (d : Nat) {t e : TypeId} (hd : P.underlying t = some (.pointer e)) (a : Addr) : (Op.equalIn (d + 1) t (.pointer (some a)) (.pointer none)).run P w = .ok false w := by simp [Op.equalIn, run_underlying hd]
theorem equalIn_func_nil (d : Nat) {t : TypeId} {ps rs : Array TypeId} {v : Bool} (hd : P.underlying t = some (.func ps rs v)) (f : Fn) (a b : Array Value) : (Op.equalIn (d + 1) t (.func f a b) .nilFunc).run P w = .ok false w := by simp [Op.equalIn, run_underlying hd]
theorem equalIn_iface_nil (d : Nat) {t : TypeId} {ms : Array (String × TypeId)} (hd : P.underlying t = some (.interface ms)) (u : TypeId) (x : Value) : (Op.equalIn (d + 1) t (.iface u x) .nilIface).run P w = .ok false w := by simp [Op.equalIn, run_underlying hd]
theorem equalIn_map_nil (d : Nat) {t k e : TypeId} (hd : P.underlying t = some (.map k e)) (r : Nat) : (Op.equalIn (d + 1) t (.map (some r)) (.map none)).run P w = .ok false w := by simp [Op.equalIn, run_underlying hd]
theorem equalIn_slice_nil (d : Nat) {t e : TypeId} (hd : P.underlying t = some (.slice e)) (a : Addr) (n c : Nat) : (Op.equalIn (d + 1) t (.slice (some a) n c) (.slice none 0 0)).run P w = .ok false w := by simp [Op.equalIn, run_underlying hd]

theorem binE_sound {op : BinOp} {t : TypeId} {x y v : V} {u1 u2 : Value} (hx : RV w Pr β x u1) (hy : RV w Pr β y u2) (h : binE P op t x y = some v) (X Y : Operand) :
    ∃ u, (do eqGuard op t X Y u1 u2; binOp op t u1 u2 : Sem Value).run P w = .ok u w ∧ RV w Pr β v u := by
  unfold binE at h
  split at h
  · -- ints
    rename_i k a k' b
    rw [hx.sc_inv, hy.sc_inv, eqGuard_at_int]
    simp only [Sem.run_bind, Sem.run_pure, Result.andThen_ok]
    split at h
    · rename_i hs
      cases hq : shI op k a b with
      | none => simp [hq] at h
      | some r => simp [hq] at h; subst h; exact ⟨r, binOp_sh hs hq, RV.mk_sc _⟩
    · rename_i hs
      split at h
      · rename_i hk
        subst hk
        cases hq : binI op k a b with
        | none => simp [hq] at h
        | some r => simp [hq] at h; subst h; exact ⟨r, binOp_int (by simpa using hs) hq, RV.mk_sc _⟩
      · cases h
  · -- strings
    rename_i a b
    rw [hx.sc_inv, hy.sc_inv, eqGuard_at_string]
    simp only [Sem.run_bind, Sem.run_pure, Result.andThen_ok]
    cases hq : strS op a b with
    | none => simp [hq] at h
    | some r => simp [hq] at h; subst h; exact ⟨r, binOp_str hq, RV.mk_sc _⟩
  · -- bools
    rename_i a b
    rw [hx.sc_inv, hy.sc_inv, eqGuard_at_bool]
    simp only [Sem.run_bind, Sem.run_pure, Result.andThen_ok]
    cases hti : tyI P t with
    | none => simp [hti] at h
    | some ti =>
      obtain ⟨i, d, z, _, hd, _, htd, _⟩ := tyI_spec hti
      simp only [hti, Option.bind_some, htd] at h
      split at h
      · rename_i hdd
        have hd' : d = .bool := by cases d <;> simp [tdOf] at hdd; rfl
        subst hd'
        refine eqNeq_run h (fun op ho => ?_) (by rw [run_equal']; exact run_equalIn_bool' w 9999 t a b hd)
        rcases ho with rfl | rfl <;> simp [binOp]
      · cases h
  · -- structs, arrays
    rename_i xs ys
    obtain ⟨us, rfl, h1⟩ := hx.agg_inv
    obtain ⟨vs, rfl, h2⟩ := hy.agg_inv
    cases hti : tyI P t with
    | none => simp [hti] at h
    | some ti =>
      obtain ⟨i, d, z, _, hd, _, htd, _, _, _, heq⟩ := tyI_spec hti
      simp only [hti, Option.bind_some, heq] at h
      split at h
      rotate_left
      · simp at h
      · rename_i hg
        obtain ⟨hg', ha⟩ := hg
        cases hl : leaves P 20 t with
        | none => simp [hl] at h
        | some ls =>
          simp only [hl, Option.bind_some] at h
          cases hb : eqL ls xs ys with
          | none => simp [hb] at h
          | some b =>
            simp only [hb, Option.bind_some] at h
            simp only [Sem.run_bind, run_eqGuard_agg w op t X Y _ _ hg', Result.andThen_ok]
            have hr := leaves_run (P := P) w 20 t ls us vs b 10000 (by omega) hl (eqL_eqLv h1 h2 hb)
            rw [ha] at hr
            simp only [wrapA, if_true] at hr
            exact eqNeq_run h (fun op ho => by rcases ho with rfl | rfl <;> simp [binOp]) hr
  · -- nil
    rename_i n1 n2 n3 n4
    cases hti : tyI P t with
    | none => simp [hti] at h
    | some ti =>
      obtain ⟨i, d, z, _, hd, _, htd, _⟩ := tyI_spec hti
      simp only [hti, Option.bind_some, htd] at h
      split at h
      · rename_i hny
        split at h
        · cases h
        · split at h
          · rename_i hnx
            have key : (eqGuard op t X Y u1 u2) = pure () ∧ (Op.equal t u1 u2).run P w = .ok false w ∧ ∀ op, op = .eql ∨ op = .neq → (binOp op t u1 u2).run P w = ((Op.equal t u1 u2).run P w).andThen fun r w' => .ok (.bool (if op = .eql then r else !r)) w' := by
              unfold nilOf at hny
              split at hny <;> try (cases hny; done)
              all_goals
                rename_i hdd
                cases d <;> simp [tdOf] at hdd
                rw [hy.sc_inv]
                unfold notNil at hnx
                split at hnx <;> try (cases hnx; done)
                all_goals
                  rename_i q1 q2
                  first
                    | (cases q1; done)
                    | skip
              all_goals first
                | (obtain ⟨A, cap, b, sz, rfl, hb, hn, hc, ha, hs⟩ := hx.row_inv
                   have h0 := of_decide_eq_true hnx
                   rw [ha (by omega)]
                   exact ⟨eqGuard_at_slice .., equalIn_slice_nil 9999 hd .., fun op ho => by rcases ho with rfl | rfl <;> simp [binOp]⟩)
                | skip
              all_goals cases hx
              all_goals first
                | exact ⟨eqGuard_at_pointer .., equalIn_ptr_nil 9999 hd .., fun op ho => by rcases ho with rfl | rfl <;> simp [binOp]⟩
                | exact ⟨eqGuard_at_func .., equalIn_func_nil 9999 hd .., fun op ho => by rcases ho with rfl | rfl <;> simp [binOp]⟩
                | exact ⟨eqGuard_at_iface .., equalIn_iface_nil 9999 hd .., fun op ho => by rcases ho with rfl | rfl <;> simp [binOp]⟩
                | exact ⟨eqGuard_at_map .., equalIn_map_nil 9999 hd .., fun op ho => by rcases ho with rfl | rfl <;> simp [binOp]⟩
                | (rename_i hr
                   cases hr
                   exact ⟨eqGuard_at_slice .., equalIn_slice_nil 9999 hd .., fun op ho => by rcases ho with rfl | rfl <;> simp [binOp]⟩)
            obtain ⟨k1, k2, k3⟩ := key
            rw [k1]
            simp only [Sem.run_bind, Sem.run_pure, Result.andThen_ok]
            exact eqNeq_run h k3 k2
          · cases h
      · cases h
end
end Go.Ab

set_option linter.unusedVariables false
set_option linter.unusedSimpArgs false
namespace Go.Ab

theorem setL_length {α : Type} : ∀ (vs : List α) (l : List α) (o : Nat), (setL l o vs).length = l.length
  | [], l, o => rfl
  | v :: vs, l, o => by rw [setL, setL_length vs]; simp

theorem setL_get {α : Type} : ∀ (vs : List α) (l : List α) (o k : Nat), o + vs.length ≤ l.length → (setL l o vs)[k]? = if o ≤ k ∧ k < o + vs.length then vs[k - o]? else l[k]?
  | [], l, o, k, h => by simp [setL]; intro h1 h2; omega
  | v :: vs, l, o, k, h => by
    simp at h
    rw [setL, setL_get vs _ _ _ (by simp; omega)]
    by_cases h1 : o + 1 ≤ k ∧ k < o + 1 + vs.length
    · rw [if_pos h1, if_pos (by simp; omega)]
      rw [show k - o = (k - (o + 1)) + 1 from by omega]
      simp
    · rw [if_neg h1]
      by_cases h2 : k = o
      · subst h2
        rw [if_pos (by simp), List.getElem?_set_self (by omega)]
        simp
      · rw [if_neg (by simp; omega), List.getElem?_set_ne (Ne.symm h2)]

theorem setL_append {α : Type} (l : List α) : ∀ (xs ys : List α) (o : Nat), setL l o (xs ++ ys) = setL (setL l o xs) (o + xs.length) ys
  | [], ys, o => by simp [setL]
  | x :: xs, ys, o => by
    rw [List.cons_append, setL, setL, setL_append _ xs ys (o + 1)]
    congr 1
    simp
    omega

theorem pos_ne {sz j j' k k' : Nat} (hj : j ≠ j') (hk : k < sz) (hk' : k' < sz) : j * sz + k ≠ j' * sz + k' := by
  intro h
  rcases Nat.lt_or_gt_of_ne hj with h1 | h1
  · have : (j + 1) * sz ≤ j' * sz := Nat.mul_le_mul_right _ h1
    rw [Nat.add_mul] at this
    omega
  · have : (j' + 1) * sz ≤ j * sz := Nat.mul_le_mul_right _ h1
    rw [Nat.add_mul] at this
    omega

theorem pos_lt {sz j k n : Nat} (hj : j < n) (hk : k < sz) : j * sz + k < n * sz := by
  have : (j + 1) * sz ≤ n * sz := Nat.mul_le_mul_right _ hj
  rw [Nat.add_mul] at this
  omega

section
variable {P : Program} {w : World} {Pr : Nat → Prop} {β : Bt} {h : H}

theorem add_none (b o n : Nat) : (⟨b, o, none⟩ : Addr).add n = ⟨b, o + n, none⟩ := Addr.add_lit b o n

theorem getB_spec {i : Nat} {t : TypeId} {es : List (List V)} {ex : Bool} (hg : getB h i = some (t, es, ex)) : h[i]? = some (.cells t es ex) := by
  unfold getB at hg
  split at hg
  · rename_i t' es' ex' hh; injection hg with hg; injection hg with h1 h2; injection h2 with h2 h3; subst h1 h2 h3; exact hh
  · cases hg

theorem Hp.at (hh : Hp P w Pr β h) {i : Nat} {x : B} (hi : h[i]? = some x) : ∃ b sz, β[i]? = some (b, sz) := by
  have : i < β.length := by rw [hh.len]; exact (List.getElem?_eq_some_iff.1 hi).1
  exact ⟨β[i].1, β[i].2, by rw [List.getElem?_eq_getElem this]⟩

/-- The values of an element's cells. -/
theorem Hp.elem (hh : Hp P w Pr β h) {i b sz j : Nat} {t : TypeId} {es : List (List V)} {ex : Bool} {e : List V} (hi : h[i]? = some (.cells t es ex)) (hb : β[i]? = some (b, sz)) (hj : es[j]? = some e) :
    ∃ us, RL w Pr β e us ∧ (∀ k u, us[k]? = some u → w.cell? ⟨b, j * sz + k, none⟩ = some u) := by
  obtain ⟨c, h1, h2, h3, h4, h5, h6⟩ := hh.blk i _ b sz hi hb
  have hl : e.length = sz := h3 j e hj
  have hlt : (j + 1) * sz ≤ es.length * sz := Nat.mul_le_mul_right _ (List.getElem?_eq_some_iff.1 hj).1
  rw [Nat.add_mul, Nat.one_mul] at hlt
  refine ⟨(c.toList.drop (j * sz)).take sz, ⟨by simp; omega, fun k v u hv hu => ?_⟩, fun k u hu => ?_⟩
  · obtain ⟨u', hu', hr⟩ := h6 j e k v hj hv
    rw [List.getElem?_take] at hu
    split at hu
    · rw [List.getElem?_drop, Array.getElem?_toList, hu'] at hu
      injection hu with hu
      subst hu
      exact hr
    · cases hu
  · rw [cell_of_row w b _ c t (0, 0) h1]
    rw [List.getElem?_take] at hu
    split at hu
    · rw [List.getElem?_drop, Array.getElem?_toList] at hu
      exact hu
    · cases hu

theorem RV.ep_inv {cs : List T} {u : Value} (hv : RV w Pr β (.ep cs) u) : ∃ b o us, u = .pointer (some ⟨b, o, none⟩) ∧ Pr b ∧ RL w Pr β (cs.map .tr) us ∧ (∀ k u, us[k]? = some u → w.cell? ⟨b, o + k, none⟩ = some u) := by
  cases hv with
  | ep f hp hw hr =>
    rename_i b o
    refine ⟨b, o, (List.range cs.length).map f, rfl, hp, ⟨by simp, fun k v u h1 h2 => ?_⟩, fun k u h2 => ?_⟩
    · rw [List.getElem?_map] at h1 h2
      cases hk : cs[k]? with
      | none => simp [hk] at h1
      | some t =>
        have hlt := (List.getElem?_eq_some_iff.1 hk).1
        simp [hk] at h1
        simp [hlt] at h2
        subst h1 h2
        exact .tr (hr k t hk)
    · rw [List.getElem?_map] at h2
      have hlt : k < cs.length := by
        rcases Nat.lt_or_ge k cs.length with hl | hl
        · exact hl
        · simp [List.getElem?_eq_none, hl] at h2
      simp [hlt] at h2
      subst h2
      exact hw k cs[k] (List.getElem?_eq_getElem hlt)

theorem RV.ptr_inv {i j o : Nat} {u : Value} (hv : RV w Pr β (.ptr i j o) u) : ∃ b sz, β[i]? = some (b, sz) ∧ u = .pointer (some ⟨b, j * sz + o, none⟩) := by
  cases hv with
  | ptr hb => exact ⟨_, _, hb, rfl⟩

/-- A part of cells. -/
theorem loadVar_run {t : TypeId} {d : TypeDesc} {i : TypeInfo} (hd : P.underlying t = some d) (hi : P.info? t = some i) {cs : List V} {us : List Value} {b p o : Nat} {v : V}
    (hr : RL w Pr β cs us) (hc : ∀ k u, us[k]? = some u → w.cell? ⟨b, p + k, none⟩ = some u) (hv : partV (aggD d) i.size cs o = some v) :
    ∃ u, (loadVar t ⟨b, p + o, none⟩).run P w = .ok u w ∧ RV w Pr β v u := by
  unfold partV at hv
  cases ha : aggD d with
  | true =>
    simp only [ha, if_true] at hv
    split at hv
    · rename_i hl
      injection hv with hv
      subst hv
      have hlen : ((us.drop o).take i.size).length = i.size := by have := hr.1; simp; omega
      have hrun := run_loadCells_list (P := P) w ⟨b, p + o, none⟩ ((us.drop o).take i.size) (fun k u hu => by
        rw [add_none, Nat.add_assoc]
        refine hc _ u ?_
        rw [List.getElem?_take] at hu
        split at hu
        · rw [List.getElem?_drop] at hu; exact hu
        · cases hu)
      rw [hlen] at hrun
      refine ⟨_, ?_, RV.mk_agg ((hr.drop o).take i.size)⟩
      simp only [loadVar, Sem.run_bind, run_isAgg' w hd, ha, Result.andThen_ok, if_true, run_sizeOf' w hi, hrun, Sem.run_pure]
    · cases hv
  | false =>
    simp only [ha, Bool.false_eq_true, if_false] at hv
    obtain ⟨u, hu, hru⟩ := hr.get hv
    refine ⟨u, ?_, hru⟩
    simp only [loadVar, Sem.run_bind, run_isAgg' w hd, ha, Result.andThen_ok, Bool.false_eq_true, if_false, run_load, hc _ u hu]

theorem part_run {t : TypeId} {d : TypeDesc} {i : TypeInfo} (hd : P.underlying t = some d) (hi : P.info? t = some i) {cs : List V} {us : List Value} {o : Nat} {v : V}
    (hr : RL w Pr β cs us) (hv : partV (aggD d) i.size cs o = some v) : ∃ u, (part t us.toArray o).run P w = .ok u w ∧ RV w Pr β v u := by
  unfold partV at hv
  cases ha : aggD d with
  | true =>
    simp only [ha, if_true] at hv
    split at hv
    · injection hv with hv
      subst hv
      refine ⟨_, ?_, RV.mk_agg ((hr.drop o).take i.size)⟩
      simp only [part, Sem.run_bind, run_isAgg' w hd, ha, Result.andThen_ok, if_true, run_sizeOf' w hi, Sem.run_pure]
      congr 2
      simp [List.extract_eq_take_drop]
    · cases hv
  | false =>
    simp only [ha, Bool.false_eq_true, if_false] at hv
    obtain ⟨u, hu, hru⟩ := hr.get hv
    refine ⟨u, ?_, hru⟩
    simp only [part, Sem.run_bind, run_isAgg' w hd, ha, Result.andThen_ok, Bool.false_eq_true, if_false]
    rw [List.getElem?_toArray, hu]
    rfl

theorem loadE_sound (hh : Hp P w Pr β h) {t : TypeId} {x v : V} {u : Value} (hx : RV w Pr β x u) (he : loadE P t x h = some v) :
    ∃ r, (Instr.loadAt t u).run P w = .ok r w ∧ RV w Pr β v r := by
  unfold loadE at he
  cases hti : tyI P t with
  | none => simp [hti] at he
  | some ti =>
    obtain ⟨i, d, z, hi, hd, _, htd, hsz, _⟩ := tyI_spec hti
    simp only [hti, Option.bind_some, htd, hsz, aggD_td] at he
    split at he
    · rename_i i' j o
      obtain ⟨b, sz, hb, rfl⟩ := hx.ptr_inv
      cases hg : getB h i' with
      | none => simp [hg] at he
      | some q =>
        obtain ⟨t', es, ex⟩ := q
        simp only [hg, Option.bind_some] at he
        cases hj : es[j]? with
        | none => simp [hj] at he
        | some e =>
          simp only [hj, Option.bind_some] at he
          obtain ⟨us, h1, h2⟩ := hh.elem (getB_spec hg) hb hj
          obtain ⟨r, hr, hrv⟩ := loadVar_run hd hi h1 h2 he
          exact ⟨r, by simp only [Instr.loadAt, Instr.sureAddr, Sem.run_bind, Sem.run_pure, Result.andThen_ok, hr], hrv⟩
    · rename_i cs
      obtain ⟨b, o, us, rfl, _, h1, h2⟩ := hx.ep_inv
      obtain ⟨r, hr, hrv⟩ := loadVar_run hd hi h1 h2 he
      exact ⟨r, by simp only [Instr.loadAt, Instr.sureAddr, Sem.run_bind, Sem.run_pure, Result.andThen_ok, Nat.add_zero] at hr ⊢; exact hr, hrv⟩
    · cases he

/-! ### stores -/
theorem run_storeCells_mid (g : Nat) (t : TypeId) : ∀ (vs : List Value) (o i : Nat) (cur : Array Value) (w : World), w.heap[g]? = some (.cells cur t (0, 0)) → o + i + vs.length ≤ cur.size → (∀ v ∈ vs, v.oneCell' = true) →
    (storeCells ⟨g, o, none⟩ vs i).run P w = .ok () (w.setRow g (setL cur.toList (o + i) vs).toArray)
  | [], o, i, cur, w, hg, hl, _ => by
    have hlt : g < w.heap.size := (Array.getElem?_eq_some_iff.1 hg).1
    have hv : w.heap[g] = .cells cur t (0, 0) := (Array.getElem?_eq_some_iff.1 hg).2
    simp only [storeCells, setL, Array.toArray_toList]
    show Result.ok () w = _
    congr 1
    unfold World.setRow
    cases w with
    | mk heap tape drawn os output =>
      congr 1
      apply Array.ext
      · simp
      · intro k h1 h2
        simp only [Array.getElem_modify]
        split
        · rename_i hk; subst hk; simp at hv; simp [hv]
        · rfl
  | v :: rest, o, i, cur, w, hg, hl, h1 => by
    have hi : o + i < cur.size := by simp at hl; omega
    have hcell : w.cell? ⟨g, o + i, none⟩ = some cur[o + i] := by simp [World.cell?, hg, hi]
    have hfro : w.frozen? ⟨g, o + i, none⟩ = false := by simp [World.frozen?, hg]
    have hst : (store ((⟨g, o, none⟩ : Addr).add i) v).run P w = .ok () (w.setRow g (cur.setIfInBounds (o + i) v)) := by
      rw [add_none, run_store P w _ v _ (h1 v (by simp)), hcell]
      simp [hfro, setCell_eq_setRow w g (o + i) cur t (0, 0) v hg]
    have ih := run_storeCells_mid g t rest o (i + 1) (cur.setIfInBounds (o + i) v) (w.setRow g (cur.setIfInBounds (o + i) v)) (setRow_heap w g cur _ t _ hg) (by simp at hl ⊢; omega) (fun x hx => h1 x (by simp [hx]))
    simp only [storeCells, Sem.run_bind, hst, Result.andThen_ok, ih, setRow_setRow]
    congr 3
    simp [setL, Nat.add_assoc]

/-- A block's cells written: elements j.. -/
theorem Hp.setRow (hh : Hp P w Pr β h) {i b sz : Nat} {t : TypeId} {es es' : List (List V)} {ex : Bool} {c c' : Array Value} (hi : h[i]? = some (.cells t es ex)) (hb : β[i]? = some (b, sz))
    (hc : w.heap[b]? = some (.cells c t (0, 0))) (hs : c'.size = c.size) (hl : es'.length = es.length) (hel : ∀ (j : Nat) (e : List V), es'[j]? = some e → e.length = sz)
    (hr : ∀ (j : Nat) (e : List V) (k : Nat) (v : V), es'[j]? = some e → e[k]? = some v → ∃ u, c'[j * sz + k]? = some u ∧ RV w Pr β v u) :
    Ext w Pr β (w.setRow b c') Pr β ∧ Hp P (w.setRow b c') Pr β (h.set i (.cells t es' ex)) := by
  have e : Ext w Pr β (w.setRow b c') Pr β := Ext.write hb (by simp) rfl rfl rfl (fun k hk => setRow_other w b k c' hk) (fun cs' t' fz hcs => by
    rw [setRow_heap w b c c' t (0, 0) hc] at hcs
    injection hcs with hcs
    injection hcs with h1 h2 h3
    subst h1
    exact ⟨c, t, (0, 0), hc, by omega⟩)
  refine ⟨e, hh.write hb hi (by simp) e (by simp) (fun k hk => setRow_other w b k c' hk) ?_⟩
  obtain ⟨c0, h1, h2, h3, h4, h5, h6⟩ := hh.blk i _ b sz hi hb
  rw [hc] at h1
  injection h1 with h1
  injection h1 with h1
  subst h1
  exact ⟨c', setRow_heap w b c c' t (0, 0) hc, h2, hel, by rw [hl, hs]; exact h4, fun hx => by rw [hs, hl]; exact h5 hx, fun j e' k v hj hk => (hr j e' k v hj hk).imp fun u ⟨q, r⟩ => ⟨q, e.rv hh r⟩⟩

theorem storeE_sound (hh : Hp P w Pr β h) {t : TypeId} {x y : V} {u1 u2 : Value} {h' : H} (hx : RV w Pr β x u1) (hy : RV w Pr β y u2) (he : storeE P t x y h = some h') :
    ∃ w', (Instr.storeAt t u1 u2).run P w = .ok () w' ∧ Ext w Pr β w' Pr β ∧ Hp P w' Pr β h' := by
  unfold storeE at he
  cases hti : tyI P t with
  | none => simp [hti] at he
  | some ti =>
    obtain ⟨i, d, z, hi, hd, _, htd, hsz, _⟩ := tyI_spec hti
    simp only [hti, Option.bind_some, hsz] at he
    split at he
    · rename_i i' j o
      obtain ⟨b, sz, hb, rfl⟩ := hx.ptr_inv
      cases hg : getB h i' with
      | none => simp [hg] at he
      | some q =>
        obtain ⟨t', es, ex⟩ := q
        simp only [hg, Option.bind_some] at he
        cases hj : es[j]? with
        | none => simp [hj] at he
        | some e =>
          simp only [hj, Option.bind_some] at he
          split at he
          · rename_i hcond
            obtain ⟨hl, ho, hone⟩ := hcond
            injection he with he
            subst he
            have hib := getB_spec hg
            obtain ⟨c, h1, h2, h3, h4, h5, h6⟩ := hh.blk i' _ b sz hib hb
            have hel : e.length = sz := h3 j e hj
            have hjlt := (List.getElem?_eq_some_iff.1 hj).1
            have hrl : RL w Pr β y.cells u2.cells.toList := hy.cells (.inl hone)
            have hlen : u2.cells.toList.length = y.cells.length := hrl.1
            have hbd : j * sz + o + y.cells.length ≤ c.size := by
              have : (j + 1) * sz ≤ es.length * sz := Nat.mul_le_mul_right _ hjlt
              rw [Nat.add_mul, Nat.one_mul] at this
              omega
            have hrun := run_storeCells_mid (P := P) b t' u2.cells.toList (j * sz + o) 0 c w h1 (by rw [hlen]; simpa using hbd) (hrl.one hone)
            refine ⟨_, ?_, hh.setRow (c := c) (c' := (setL c.toList (j * sz + o) u2.cells.toList).toArray) (es' := es.set j (setL e o y.cells)) hib hb h1 (by simp [setL_length]) (by simp) (fun j' e' hj' => ?_) (fun j' e' k v hj' hk => ?_)⟩
            · simp only [Instr.storeAt, Instr.sureAddr, Sem.run_bind, Sem.run_pure, Result.andThen_ok, storeVar, run_sizeOf' w hi]
              have hcs : u2.cells.size = i.size := by have := hlen; simp at this; omega
              simp only [hcs, ne_eq, not_true_eq_false, if_false, hrun, Nat.add_zero]
            · by_cases hjj : j' = j
              · subst hjj
                rw [List.getElem?_set_self hjlt] at hj'
                injection hj' with hj'
                subst hj'
                rw [setL_length]; exact hel
              · rw [List.getElem?_set_ne (Ne.symm hjj)] at hj'
                exact h3 j' e' hj'
            · rw [List.getElem?_toArray, setL_get _ _ _ _ (by rw [hlen]; simpa using hbd)]
              by_cases hjj : j' = j
              · subst hjj
                rw [List.getElem?_set_self hjlt] at hj'
                injection hj' with hj'
                subst hj'
                rw [setL_get _ _ _ _ ho] at hk
                by_cases hin : o ≤ k ∧ k < o + y.cells.length
                · rw [if_pos hin] at hk
                  rw [if_pos (by rw [hlen]; omega), show j' * sz + k - (j' * sz + o) = k - o from by omega]
                  exact hrl.get hk
                · rw [if_neg hin] at hk
                  rw [if_neg (by rw [hlen]; omega), Array.getElem?_toList]
                  exact h6 j' e k v hj hk
              · rw [List.getElem?_set_ne (Ne.symm hjj)] at hj'
                have hk1 : k < sz := by rw [← h3 j' e' hj']; exact (List.getElem?_eq_some_iff.1 hk).1
                rw [if_neg (fun hin => ?_), Array.getElem?_toList]
                · exact h6 j' e' k v hj' hk
                · rw [hlen] at hin
                  exact pos_ne (k' := j' * sz + k - j * sz) hjj hk1 (by omega) (by omega)
          · cases he
    · cases he
end
end Go.Ab
