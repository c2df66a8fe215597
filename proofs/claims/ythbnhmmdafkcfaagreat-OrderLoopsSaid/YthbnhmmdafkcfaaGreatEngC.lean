/- An evaluator of the program over states of which some values are told, and that what it says the program does. -/
import Derived.Test.YthbnhmmdafkcfaaGreatEngB
import Derived.Laws.Slices
set_option linter.unusedVariables false
set_option linter.unusedSimpArgs false
namespace Go.Ab

section
variable {P : Program} {w : World} {Pr : Nat → Prop} {β : Bt} {h : H}

theorem asI_inv {v : V} {n : Int} {u : Value} (hn : asI v = some n) (hv : RV w Pr β v u) : ∃ k, u = .int k n := by
  unfold asI at hn
  split at hn
  · rename_i k m
    injection hn with hn
    subst hn
    exact ⟨k, hv.sc_inv⟩
  · cases hn

theorem asB_inv {v : V} {b : Bool} {u : Value} (hn : asB v = some b) (hv : RV w Pr β v u) : u = .bool b := by
  unfold asB at hn
  split at hn
  · injection hn with hn
    subst hn
    exact hv.sc_inv
  · cases hn

theorem td_arr {d : TypeDesc} {n : Nat} {e : TypeId} (hd : tdOf P d = .arr n e) : d = .array n e := by cases d <;> simp [tdOf] at hd; simp [hd]
theorem td_slice {d : TypeDesc} {e : TypeId} (hd : tdOf P d = .slice e) : d = .slice e := by cases d <;> simp [tdOf] at hd; simp [hd]
theorem td_str {d : TypeDesc} (hd : tdOf P d = .str) : d = .string := by cases d <;> simp [tdOf] at hd; rfl
theorem td_int {d : TypeDesc} {k : IntKind} (hd : tdOf P d = .int k) : d = .int k := by cases d <;> simp [tdOf] at hd; simp [hd]
theorem td_map {d : TypeDesc} {k e : TypeId} (hd : tdOf P d = .map k e) : d = .map k e := by cases d <;> simp [tdOf] at hd; simp [hd]
theorem td_struct {d : TypeDesc} {fs : List (Nat × Nat × Bool)} (hd : tdOf P d = .struct fs) : ∃ gs, d = .struct gs ∧ fs = gs.toList.map fun f => (f.offset, szT P f.type, aggT P f.type) := by
  cases d <;> simp [tdOf] at hd
  exact ⟨_, rfl, hd.symm⟩
theorem td_bool {d : TypeDesc} (hd : tdOf P d = .bool) : d = .bool := by cases d <;> simp [tdOf] at hd; rfl

theorem RV.sl_inv {sz : Nat} {es : List (List T)} {u : Value} (hv : RV w Pr β (.tr (.sl sz es)) u) : ∃ A n c, u = .slice A n c ∧ n = es.length ∧ n ≤ c ∧
    (es ≠ [] → ∃ b o, A = some ⟨b, o, none⟩ ∧ Pr b ∧ ∀ (j : Nat) (ts : List T), es[j]? = some ts → ts.length = sz ∧
      ∃ us : List Value, us.length = ts.length ∧ (∀ (k : Nat) (t : T) (x : Value), ts[k]? = some t → us[k]? = some x → RT w Pr t x) ∧ ∀ (k : Nat) (x : Value), us[k]? = some x → w.cell? ⟨b, o + (j * sz + k), none⟩ = some x) := by
  cases hv with
  | tr hr =>
    cases hr with
    | nl _ A c => exact ⟨A, 0, c, rfl, rfl, Nat.zero_le _, fun hne => absurd rfl hne⟩
    | sl _ _ b o n c f hn hc hp hs hw hr =>
      refine ⟨_, n, c, rfl, hn, hc, fun _ => ⟨b, o, rfl, hp, fun j ts hj => ⟨hs j ts hj, (List.range ts.length).map (f j), by simp, fun k t x hk hx => ?_, fun k x hx => ?_⟩⟩⟩
      · have hlt := (List.getElem?_eq_some_iff.1 hk).1
        rw [List.getElem?_map] at hx
        simp [hlt] at hx
        subst hx
        exact hr j ts k t hj hk
      · rw [List.getElem?_map] at hx
        have hlt : k < ts.length := by
          rcases Nat.lt_or_ge k ts.length with hl | hl
          · exact hl
          · simp [List.getElem?_eq_none, hl] at hx
        simp [hlt] at hx
        subst hx
        exact hw j ts k ts[k] hj (List.getElem?_eq_getElem hlt)

/-- A pointer into data that lies. -/
theorem RV.mk_ep {ts : List T} {us : List Value} {b o : Nat} (hp : Pr b) (hl : us.length = ts.length) (hr : ∀ (k : Nat) (t : T) (x : Value), ts[k]? = some t → us[k]? = some x → RT w Pr t x)
    (hc : ∀ (k : Nat) (x : Value), us[k]? = some x → w.cell? ⟨b, o + k, none⟩ = some x) : RV w Pr β (.ep ts) (.pointer (some ⟨b, o, none⟩)) := by
  refine .ep (fun k => us.getD k undef) hp (fun k t hk => ?_) (fun k t hk => ?_)
  all_goals
    have hlt : k < us.length := by rw [hl]; exact (List.getElem?_eq_some_iff.1 hk).1
    have hx : us[k]? = some us[k] := List.getElem?_eq_getElem hlt
    have hg : us.getD k undef = us[k] := by simp [List.getD, hlt]
  · rw [hg]; exact hc k _ hx
  · rw [hg]; exact hr k t _ hk hx

theorem mk_row_ptr {i j o p b sz : Nat} (hb : β[i]? = some (b, sz)) (he : p = j * sz + o) : RV w Pr β (.ptr i j o) (.pointer (some ⟨b, p, none⟩)) := by
  subst he; exact .ptr hb

theorem blk_sz (hh : Hp P w Pr β h) {i b sz : Nat} {t : TypeId} {es : List (List V)} {ex : Bool} (hi : h[i]? = some (.cells t es ex)) (hb : β[i]? = some (b, sz)) : szT P t = sz := by
  obtain ⟨c, h1, h2, _⟩ := hh.blk i _ b sz hi hb
  exact h2

theorem idxE_sound (hh : Hp P w Pr β h) {t : TypeId} {x i v : V} {u1 u2 : Value} (hx : RV w Pr β x u1) (hi : RV w Pr β i u2) (he : idxE P t x i h = some v) :
    ∃ r, (Instr.indexAt t u1 u2).run P w = .ok r w ∧ RV w Pr β v r := by
  unfold idxE at he
  cases hn : asI i with
  | none => simp [hn] at he
  | some n =>
    obtain ⟨kk, rfl⟩ := asI_inv hn hi
    cases hti : tyI P t with
    | none => simp [hn, hti] at he
    | some ti =>
      obtain ⟨inf, d, z, hinf, hd, _, htd, _⟩ := tyI_spec hti
      simp only [hn, hti, Option.bind_some] at he
      split at he
      · rename_i len e b j o hdd
        rw [htd] at hdd
        have := td_arr hdd
        subst this
        cases hte : tyI P e with
        | none => simp [hte] at he
        | some te =>
          obtain ⟨ie, de, ze, hie, hde, _, _, hse, _⟩ := tyI_spec hte
          simp only [hte, Option.bind_some] at he
          split at he
          · rename_i hc
            injection he with he
            subst he
            obtain ⟨bb, sz, hb, rfl⟩ := hx.ptr_inv
            refine ⟨.pointer (some ⟨bb, j * sz + o + n.toNat * ie.size, none⟩), ?_, mk_row_ptr hb (by rw [hse]; omega)⟩
            simp [Instr.indexAt, asIntOf, run_underlying hd, Instr.sureAddr, run_sizeOf' w hie, hc, add_none]
          · cases he
      · rename_i len e cs hdd
        rw [htd] at hdd
        have := td_arr hdd
        subst this
        cases hte : tyI P e with
        | none => simp [hte] at he
        | some te =>
          obtain ⟨ie, de, ze, hie, hde, _, _, hse, _⟩ := tyI_spec hte
          simp only [hte, Option.bind_some] at he
          split at he
          · rename_i hc
            injection he with he
            subst he
            cases hx with
            | ep f hp hw hr =>
              rename_i bb oo
              refine ⟨.pointer (some ⟨bb, oo + n.toNat * ie.size, none⟩), ?_, ?_⟩
              · simp [Instr.indexAt, asIntOf, run_underlying hd, Instr.sureAddr, run_sizeOf' w hie, hc, add_none]
              · refine .ep (fun k => f (n.toNat * ie.size + k)) hp (fun k t hk => ?_) (fun k t hk => ?_)
                · rw [List.getElem?_drop, hse] at hk
                  have := hw _ t hk
                  rw [Nat.add_assoc]; exact this
                · rw [List.getElem?_drop, hse] at hk
                  exact hr _ t hk
          · cases he
      · rename_i e b j m c hdd
        rw [htd] at hdd
        have := td_slice hdd
        subst this
        cases hte : tyI P e with
        | none => simp [hte] at he
        | some te =>
          obtain ⟨ie, de, ze, hie, hde, _, _, hse, _⟩ := tyI_spec hte
          cases hg : getB h b with
          | none => simp [hte, hg] at he
          | some q =>
            obtain ⟨qt, es, ex⟩ := q
            cases htq : tyI P qt with
            | none => simp [hte, hg, htq] at he
            | some tq =>
              obtain ⟨iq, dq, zq, hiq, hdq, _, _, hsq, _⟩ := tyI_spec htq
              simp only [hte, hg, htq, Option.bind_some] at he
              split at he
              · rename_i hc
                obtain ⟨hc1, hc2, hc3⟩ := hc
                injection he with he
                subst he
                obtain ⟨A, cap, bb, sz, rfl, hb, h1, h2, h3, h4⟩ := hx.row_inv
                have hsz := blk_sz hh (getB_spec hg) hb
                rw [szT_of hiq] at hsz
                have hA := h3 (by omega)
                subst hA
                refine ⟨.pointer (some ⟨bb, j * sz + n.toNat * ie.size, none⟩), ?_, mk_row_ptr hb ?_⟩
                · simp [Instr.indexAt, asIntOf, run_underlying hd, run_sizeOf' w hie, hc2, hc3, add_none]
                · rw [hse, hsq] at hc1
                  rw [hc1, hsz, Nat.add_mul]
                  omega
              · cases he
      · rename_i e sz es hdd
        rw [htd] at hdd
        have := td_slice hdd
        subst this
        cases hte : tyI P e with
        | none => simp [hte] at he
        | some te =>
          obtain ⟨ie, de, ze, hie, hde, _, _, hse, _⟩ := tyI_spec hte
          simp only [hte, Option.bind_some] at he
          split at he
          · rename_i hc
            obtain ⟨hc1, hc2⟩ := hc
            cases hj : es[n.toNat]? with
            | none => simp [hj] at he
            | some ts =>
              simp [hj] at he
              subst he
              obtain ⟨A, m, c, rfl, hm, hmc, hne⟩ := hx.sl_inv
              have hlt := (List.getElem?_eq_some_iff.1 hj).1
              obtain ⟨b, o, rfl, hp, hall⟩ := hne (fun h0 => by rw [h0] at hlt; simp at hlt)
              obtain ⟨hl, us, hu1, hu2, hu3⟩ := hall _ _ hj
              refine ⟨.pointer (some ⟨b, o + n.toNat * sz, none⟩), ?_, RV.mk_ep hp hu1 hu2 (fun k x hx => by rw [Nat.add_assoc]; exact hu3 k x hx)⟩
              rw [hse] at hc1
              have hn2 : n < (m : Int) := by omega
              simp [Instr.indexAt, asIntOf, run_underlying hd, run_sizeOf' w hie, hc2, hn2, add_none, hc1]
          · cases he
      · cases he

theorem ixE_sound {t : TypeId} {x i v : V} {u1 u2 : Value} (hx : RV w Pr β x u1) (hi : RV w Pr β i u2) (he : ixE P t x i = some v) :
    ∃ r, (Instr.index t u1 u2).run P w = .ok r w ∧ RV w Pr β v r := by
  unfold ixE at he
  cases hn : asI i with
  | none => simp [hn] at he
  | some n =>
    obtain ⟨kk, rfl⟩ := asI_inv hn hi
    cases hti : tyI P t with
    | none => simp [hn, hti] at he
    | some ti =>
      obtain ⟨inf, d, z, hinf, hd, _, htd, _⟩ := tyI_spec hti
      simp only [hn, hti, Option.bind_some] at he
      split at he
      · rename_i len e cs hdd
        rw [htd] at hdd
        have := td_arr hdd
        subst this
        cases hte : tyI P e with
        | none => simp [hte] at he
        | some te =>
          obtain ⟨ie, de, ze, hie, hde, _, hted, hse, _⟩ := tyI_spec hte
          simp only [hte, Option.bind_some, hted, hse, aggD_td] at he
          split at he
          · rename_i hc
            obtain ⟨us, rfl, hr⟩ := hx.agg_inv
            obtain ⟨r, h1, h2⟩ := part_run hde hie hr he
            refine ⟨r, ?_, h2⟩
            simp [Instr.index, asIntOf, run_underlying hd, run_sizeOf' w hie, hc, h1]
          · cases he
      · rename_i s hdd
        rw [htd] at hdd
        have := td_str hdd
        subst this
        split at he
        · rename_i hc
          cases hs : s[n.toNat]? with
          | none => simp [hs] at he
          | some b =>
            simp [hs] at he
            subst he
            rw [hx.sc_inv]
            refine ⟨.int .u8 b.toNat, ?_, RV.mk_sc _⟩
            simp [Instr.index, asIntOf, run_underlying hd, hc, hs]
        · cases he
      · cases he

theorem fldAE_sound {t : TypeId} {x v : V} {f : Nat} {u : Value} (hx : RV w Pr β x u) (he : fldAE P t x f = some v) :
    ∃ r, (Instr.fieldAt t u f).run P w = .ok r w ∧ RV w Pr β v r := by
  unfold fldAE at he
  cases hti : tyI P t with
  | none => simp [hti] at he
  | some ti =>
    obtain ⟨inf, d, z, hinf, hd, _, htd, _, _, _, _, hok⟩ := tyI_spec' hti
    simp only [hti, Option.bind_some] at he
    have key : ∀ (fs : List (Nat × Nat × Bool)), ti.d = .struct fs → ∀ p, fs[f]? = some p → p.2.1 ≠ 0 → ∃ gs g ig, d = .struct gs ∧ gs[f]? = some g ∧ P.info? g.type = some ig ∧ ig.size ≠ 0 ∧ p.1 = g.offset := by
      intro fs hfs p hp hne
      rw [htd] at hfs
      obtain ⟨gs, rfl, rfl⟩ := td_struct hfs
      rw [List.getElem?_map] at hp
      cases hg : gs.toList[f]? with
      | none => simp [hg] at hp
      | some g =>
        simp only [hg, Option.map_some, Option.some.injEq] at hp
        subst hp
        simp only at hne
        have hmem := List.mem_of_getElem? hg
        simp only [okD, List.all_eq_true, Bool.and_eq_true] at hok
        obtain ⟨ig, hig⟩ := Option.isSome_iff_exists.1 (hok g hmem).1
        exact ⟨gs, g, ig, rfl, by simpa using hg, hig, by rw [szT_of hig] at hne; exact hne, rfl⟩
    split at he
    · rename_i fs b j o hdd
      cases hp : fs[f]? with
      | none => simp [hp] at he
      | some p =>
        simp only [hp, Option.bind_some] at he
        split at he
        · cases he
        · rename_i hne
          injection he with he
          subst he
          obtain ⟨gs, g, ig, rfl, hg, hig, h0, h1⟩ := key fs hdd p hp hne
          obtain ⟨bb, sz, hb, rfl⟩ := hx.ptr_inv
          refine ⟨.pointer (some ⟨bb, j * sz + o + g.offset, none⟩), ?_, mk_row_ptr hb (by omega)⟩
          simp [Instr.fieldAt, run_underlying hd, hg, Instr.sureAddr, fieldPlace, run_sizeOf' w hig, h0, add_none]
    · rename_i fs cs hdd
      cases hp : fs[f]? with
      | none => simp [hp] at he
      | some p =>
        simp only [hp, Option.bind_some] at he
        split at he
        · cases he
        · rename_i hne
          injection he with he
          subst he
          obtain ⟨gs, g, ig, rfl, hg, hig, h0, h1⟩ := key fs hdd p hp hne
          cases hx with
          | ep ff hp hw hr =>
            rename_i bb oo
            refine ⟨.pointer (some ⟨bb, oo + g.offset, none⟩), ?_, ?_⟩
            · simp [Instr.fieldAt, run_underlying hd, hg, Instr.sureAddr, fieldPlace, run_sizeOf' w hig, h0, add_none]
            · refine .ep (fun k => ff (g.offset + k)) hp (fun k t hk => ?_) (fun k t hk => ?_)
              · rw [List.getElem?_drop, h1] at hk
                rw [Nat.add_assoc]; exact hw _ t hk
              · rw [List.getElem?_drop, h1] at hk
                exact hr _ t hk
    · cases he

theorem fldE_sound {t : TypeId} {x v : V} {f : Nat} {u : Value} (hx : RV w Pr β x u) (he : fldE P t x f = some v) :
    ∃ r, (Instr.field t u f).run P w = .ok r w ∧ RV w Pr β v r := by
  unfold fldE at he
  cases hti : tyI P t with
  | none => simp [hti] at he
  | some ti =>
    obtain ⟨inf, d, z, hinf, hd, _, htd, _, _, _, _, hok⟩ := tyI_spec' hti
    simp only [hti, Option.bind_some] at he
    split at he
    · rename_i fs cs hdd
      rw [htd] at hdd
      obtain ⟨gs, rfl, rfl⟩ := td_struct hdd
      rw [List.getElem?_map] at he
      cases hg : gs.toList[f]? with
      | none => simp [hg] at he
      | some g =>
        simp only [hg, Option.map_some, Option.bind_some] at he
        have hmem := List.mem_of_getElem? hg
        simp only [okD, List.all_eq_true, Bool.and_eq_true] at hok
        obtain ⟨ig, hig⟩ := Option.isSome_iff_exists.1 (hok g hmem).1
        obtain ⟨dg, hdg⟩ := Option.isSome_iff_exists.1 (hok g hmem).2
        obtain ⟨us, rfl, hr⟩ := hx.agg_inv
        rw [szT_of hig, aggT_of hdg] at he
        obtain ⟨r, h1, h2⟩ := part_run hdg hig hr he
        refine ⟨r, ?_, h2⟩
        have hg' : gs[f]? = some g := by simpa using hg
        simp [Instr.field, run_underlying hd, hg', asAgg, h1]
    · cases he

theorem unE_sound {op : UnOp} {x v : V} {u : Value} (hx : RV w Pr β x u) (he : unE op x = some v) : ∃ r, (Op.unary op u).run P w = .ok r w ∧ RV w Pr β v r := by
  unfold unE at he
  split at he
  · injection he with he; subst he; rw [hx.sc_inv]; exact ⟨_, by simp [Op.unary], RV.mk_sc _⟩
  · injection he with he; subst he; rw [hx.sc_inv]; exact ⟨_, by simp [Op.unary, Op.intArith], RV.mk_sc _⟩
  · cases he

theorem convE_sound {src dst : TypeId} {x v : V} {u : Value} (hs : (P.underlying src).isSome = true) (hx : RV w Pr β x u) (he : convE P dst x = some v) : ∃ r, (convert src dst u).run P w = .ok r w ∧ RV w Pr β v r := by
  obtain ⟨ds, hds⟩ := Option.isSome_iff_exists.1 hs
  unfold convE at he
  cases hti : tyI P dst with
  | none => simp [hti] at he
  | some ti =>
    obtain ⟨inf, d, z, hinf, hd, _, htd, _⟩ := tyI_spec hti
    simp only [hti, Option.bind_some] at he
    split at he
    · rename_i k k' n hdd
      rw [htd] at hdd
      have := td_int hdd
      subst this
      injection he with he
      subst he
      rw [hx.sc_inv]
      exact ⟨_, by simp [convert, run_underlying hds, run_underlying hd, Conv.intToInt], RV.mk_sc _⟩
    · rename_i s hdd
      rw [htd] at hdd
      have := td_str hdd
      subst this
      injection he with he
      subst he
      rw [hx.sc_inv]
      refine ⟨.string s, ?_, RV.mk_sc _⟩
      cases ds <;> simp [convert, run_underlying hds, run_underlying hd]
    · cases he

theorem mm2_sound {mx : Bool} {x y z : Value} (he : mm2 mx x y = some z) : ((if mx then Builtin.max2 else Builtin.min2) x y).run P w = .ok z w := by
  unfold mm2 at he
  split at he
  · injection he with he
    subst he
    cases mx <;> simp [Builtin.max2, Builtin.min2]
  · cases he

theorem mmL_sound {mx : Bool} : ∀ {vs : List V} {us : List Value} {x z : Value}, RL w Pr β vs us → mmL mx x vs = some z → (us.foldlM (if mx then Builtin.max2 else Builtin.min2) x).run P w = .ok z w
  | [], us, x, z, hr, he => by
    rw [hr.nil_inv]
    simp [mmL] at he
    subst he
    simp
  | v :: vs, us, x, z, hr, he => by
    obtain ⟨u, us, rfl, h1, h2⟩ := hr.cons_inv
    cases v with
    | tr t =>
      cases t with
      | sc u' =>
        rw [h1.sc_inv]
        simp only [mmL] at he
        cases hm : mm2 mx x u' with
        | none => simp [hm] at he
        | some y =>
          simp only [hm, Option.bind_some] at he
          simp only [List.foldlM_cons, Sem.run_bind, mm2_sound hm, Result.andThen_ok]
          exact mmL_sound h2 he
      | sl sz es => simp [mmL] at he
    | _ => simp [mmL] at he

theorem mmE_sound {mx : Bool} {vs : List V} {us : List Value} {v : V} (hr : RL w Pr β vs us) (he : mmE mx vs = some v) (ats : Array TypeId) (ty : TypeId) :
    ∃ r, ((if mx then Builtin.max_ else Builtin.min_) ats ty us.toArray).run P w = .ok r w ∧ RV w Pr β v r := by
  unfold mmE at he
  split at he
  · rename_i x r
    obtain ⟨u, us, rfl, h1, h2⟩ := hr.cons_inv
    rw [h1.sc_inv]
    cases hm : mmL mx x r with
    | none => simp [hm] at he
    | some z =>
      simp [hm] at he
      subst he
      have hrun := mmL_sound (P := P) h2 hm
      refine ⟨z, ?_, RV.mk_sc _⟩
      cases mx <;> simp only [Bool.false_eq_true, if_false, if_true] at hrun ⊢ <;> simp [Builtin.max_, Builtin.min_, hrun]
  · cases he

theorem lenE_sound (hh : Hp P w Pr β h) {t ty : TypeId} {x v : V} {u : Value} (hx : RV w Pr β x u) (he : lenE P t x h = some v) : ∃ r, (Builtin.len_ #[t] ty #[u]).run P w = .ok r w ∧ RV w Pr β v r := by
  unfold lenE at he
  cases hti : tyI P t with
  | none => simp [hti] at he
  | some ti =>
    obtain ⟨inf, d, z, hinf, hd, _, htd, _⟩ := tyI_spec hti
    simp only [hti, Option.bind_some] at he
    split at he
    · rename_i s hdd
      rw [htd] at hdd
      have := td_str hdd
      subst this
      injection he with he
      subst he
      rw [hx.sc_inv]
      exact ⟨_, by simp [Builtin.len_, run_underlying hd, goInt], RV.mk_sc _⟩
    · rename_i n e x hdd
      rw [htd] at hdd
      have := td_arr hdd
      subst this
      injection he with he
      subst he
      exact ⟨_, by simp [Builtin.len_, run_underlying hd, goInt], RV.mk_sc _⟩
    · rename_i e i j n c hdd
      rw [htd] at hdd
      have := td_slice hdd
      subst this
      injection he with he
      subst he
      obtain ⟨A, cap, b, sz, rfl, _⟩ := hx.row_inv
      exact ⟨_, by simp [Builtin.len_, run_underlying hd, goInt], RV.mk_sc _⟩
    · rename_i e sz es hdd
      rw [htd] at hdd
      have := td_slice hdd
      subst this
      injection he with he
      subst he
      obtain ⟨A, n, c, rfl, rfl, _⟩ := hx.sl_inv
      exact ⟨_, by simp [Builtin.len_, run_underlying hd, goInt], RV.mk_sc _⟩
    · rename_i e hdd
      rw [htd] at hdd
      have := td_slice hdd
      subst this
      injection he with he
      subst he
      rw [hx.sc_inv]
      exact ⟨_, by simp [Builtin.len_, run_underlying hd, goInt], RV.mk_sc _⟩
    · rename_i k e hdd
      rw [htd] at hdd
      have := td_map hdd
      subst this
      injection he with he
      subst he
      rw [hx.sc_inv]
      exact ⟨_, by simp [Builtin.len_, run_underlying hd, goInt], RV.mk_sc _⟩
    · rename_i k e i hdd
      rw [htd] at hdd
      have := td_map hdd
      subst this
      split at he
      · rename_i es c hi
        injection he with he
        subst he
        cases hx with
        | mp hb =>
          obtain ⟨L, l, h1, h2, h3, _⟩ := hh.blk i _ _ _ hi hb
          have hs : L.size = es.length := by rw [← h3, ← h2.length_eq]; simp
          refine ⟨_, ?_, RV.mk_sc _⟩
          simp [Builtin.len_, run_underlying hd, goInt, getObj, Sem.run, h1, hs]
      · cases he
    · cases he
end
end Go.Ab

set_option linter.unusedVariables false
set_option linter.unusedSimpArgs false
namespace Go.Ab

theorem flatten_get {α : Type} {sz : Nat} : ∀ (es : List (List α)) (j k : Nat) (e : List α), (∀ e ∈ es, e.length = sz) → es[j]? = some e → k < sz → es.flatten[j * sz + k]? = e[k]?
  | [], j, k, e, _, h, _ => by simp at h
  | x :: xs, 0, k, e, hl, h, hk => by
    simp at h
    subst h
    rw [List.flatten_cons, List.getElem?_append_left (by simp [hl x (by simp)]; omega)]
    simp
  | x :: xs, j + 1, k, e, hl, h, hk => by
    have hx := hl x (by simp)
    rw [List.flatten_cons, List.getElem?_append_right (by rw [hx, Nat.add_mul]; omega)]
    rw [show (j + 1) * sz + k - x.length = j * sz + k from by rw [hx, Nat.add_mul]; omega]
    exact flatten_get xs j k e (fun e he => hl e (by simp [he])) (by simpa using h) hk

theorem flatten_length {α : Type} {sz : Nat} : ∀ (es : List (List α)), (∀ e ∈ es, e.length = sz) → es.flatten.length = es.length * sz
  | [], _ => by simp
  | x :: xs, hl => by
    rw [List.flatten_cons, List.length_append, flatten_length xs (fun e he => hl e (by simp [he])), hl x (by simp), List.length_cons, Nat.add_mul]
    omega

theorem flatten_set {α : Type} {sz : Nat} (es : List (List α)) (j : Nat) (e : List α) (hl : ∀ e ∈ es, e.length = sz) (he : e.length = sz) (hj : j < es.length) : (es.set j e).flatten = setL es.flatten (j * sz) e := by
  have hl' : ∀ x ∈ es.set j e, x.length = sz := by
    intro x hx
    rcases List.mem_or_eq_of_mem_set hx with h | h
    · exact hl x h
    · rw [h]; exact he
  have hb : j * sz + e.length ≤ es.flatten.length := by
    rw [flatten_length es hl, he]
    have : (j + 1) * sz ≤ es.length * sz := Nat.mul_le_mul_right _ hj
    rw [Nat.add_mul] at this
    omega
  apply List.ext_getElem?
  intro p
  rw [setL_get _ _ _ _ hb]
  by_cases hp : p < es.length * sz
  · have hsz : 0 < sz := by rcases Nat.eq_zero_or_pos sz with h0 | h0; (· rw [h0] at hp; simp at hp); exact h0
    have hq : p / sz < es.length := by rw [Nat.div_lt_iff_lt_mul hsz]; exact hp
    have hk : p % sz < sz := Nat.mod_lt _ hsz
    have hpq : p = p / sz * sz + p % sz := by rw [Nat.mul_comm]; exact (Nat.div_add_mod p sz).symm
    have hget : (es.set j e)[p / sz]? = some (if p / sz = j then e else es[p / sz]) := by
      by_cases h : p / sz = j
      · rw [if_pos h, h, List.getElem?_set_self (by rw [← h]; exact hq)]
      · rw [if_neg h, List.getElem?_set_ne (Ne.symm h), List.getElem?_eq_getElem hq]
    conv => lhs; rw [hpq]
    rw [flatten_get _ _ _ _ hl' hget hk]
    by_cases h : p / sz = j
    · have h1 : j * sz + p % sz = p := by rw [← h]; exact hpq.symm
      rw [if_pos h, if_pos (by omega), show p - j * sz = p % sz from by omega]
    · rw [if_neg h, if_neg ?_]
      · conv => rhs; rw [hpq]
        rw [flatten_get es _ _ es[p / sz] hl (List.getElem?_eq_getElem hq) hk]
      · intro hin
        exact pos_ne (k' := p - j * sz) h hk (by omega) (by omega)
  · rw [List.getElem?_eq_none (by rw [flatten_length _ hl']; simp; omega), if_neg (by rw [flatten_length es hl] at hb; omega), List.getElem?_eq_none (by rw [flatten_length es hl]; omega)]

section
variable {P : Program} {w : World} {Pr : Nat → Prop} {β : Bt} {h : H}

theorem RL.setL : ∀ {vs : List V} {us : List Value} {a : List V} {x : List Value} (o : Nat), RL w Pr β a x → RL w Pr β vs us → RL w Pr β (Ab.setL a o vs) (Ab.setL x o us)
  | [], us, a, x, o, h, k => by rw [k.nil_inv]; exact h
  | v :: vs, us, a, x, o, h, k => by
    obtain ⟨u, us, rfl, h1, h2⟩ := k.cons_inv
    exact RL.setL (o + 1) (h.set h1) h2

theorem RL.replicate {vs : List V} {us : List Value} (h : RL w Pr β vs us) : ∀ n, RL w Pr β (List.replicate n vs).flatten (List.replicate n us).flatten
  | 0 => by simp; exact .nil
  | n + 1 => by rw [List.replicate_succ, List.flatten_cons, List.replicate_succ, List.flatten_cons]; exact h.append (RL.replicate h n)

/-- A new block of elements. -/
theorem Hp.allocCells (hh : Hp P w Pr β h) {t : TypeId} {es : List (List V)} {ex : Bool} {us sp : List Value} (hl : ∀ e ∈ es, e.length = szT P t) (hr : RL w Pr β es.flatten us) (hx : ex = true → sp = []) :
    Ext w Pr β (w.alloc (.cells (us ++ sp).toArray t)) Pr (β ++ [(w.heap.size, szT P t)]) ∧ Hp P (w.alloc (.cells (us ++ sp).toArray t)) Pr (β ++ [(w.heap.size, szT P t)]) (h ++ [.cells t es ex]) := by
  have e := Ext.alloc hh (.cells (us ++ sp).toArray t) (szT P t)
  refine ⟨e, hh.alloc _ _ _ ⟨(us ++ sp).toArray, heap_alloc_new w _, rfl, fun j e hj => hl e (List.mem_of_getElem? hj), ?_, fun hex => ?_, fun j el k v hj hk => ?_⟩⟩
  · have := hr.1
    rw [flatten_length es hl] at this
    simp
    omega
  · have := hr.1
    rw [flatten_length es hl] at this
    rw [hx hex]
    simp [this]
  · have hks : k < szT P t := by rw [← hl el (List.mem_of_getElem? hj)]; exact (List.getElem?_eq_some_iff.1 hk).1
    have hf := flatten_get es j k el hl hj hks
    rw [hk] at hf
    obtain ⟨u, hu, hru⟩ := hr.get hf
    refine ⟨u, ?_, e.rv hh hru⟩
    rw [List.getElem?_toArray, List.getElem?_append_left (List.getElem?_eq_some_iff.1 hu).1]
    exact hu

theorem beta_new {sz : Nat} (hh : Hp P w Pr β h) (b : Nat) : (β ++ [(b, sz)])[h.length]? = some (b, sz) := by rw [← hh.len]; simp

/-! ### alloc, box -/
theorem run_alloc' {t : TypeId} {i : TypeInfo} {z : Value} (hi : P.info? t = some i) (hz : i.zero = some z) : (Instr.alloc t true (.tuple #[])).run P w = .ok (.pointer (some ⟨w.heap.size, 0, none⟩)) (w.alloc (.cells z.cells t)) := by
  simp [Instr.alloc, zeroValue, typeInfo, hi, hz, newVar, newRow]

theorem run_box' {t : TypeId} {z : Value} : (Instr.box t z).run P w = .ok (.pointer (some ⟨w.heap.size, 0, none⟩)) (w.alloc (.cells z.cells t)) := by
  simp [Instr.box, newVar, newRow]

theorem allocOne (hh : Hp P w Pr β h) {t : TypeId} {cs : List V} {z : Value} (hl : cs.length = szT P t) (hr : RL w Pr β cs z.cells.toList) :
    Ext w Pr β (w.alloc (.cells z.cells t)) Pr (β ++ [(w.heap.size, szT P t)]) ∧ Hp P (w.alloc (.cells z.cells t)) Pr (β ++ [(w.heap.size, szT P t)]) (h ++ [.cells t [cs] true]) ∧
      RV (w.alloc (.cells z.cells t)) Pr (β ++ [(w.heap.size, szT P t)]) (.ptr h.length 0 0) (.pointer (some ⟨w.heap.size, 0, none⟩)) := by
  have := hh.allocCells (t := t) (es := [cs]) (ex := true) (us := z.cells.toList) (sp := []) (by simp [hl]) (by simpa using hr) (fun _ => rfl)
  simp only [List.append_nil, Array.toArray_toList] at this
  exact ⟨this.1, this.2, mk_row_ptr (beta_new hh _) (by simp)⟩

/-! ### build -/
theorem fill_fold : ∀ (l : List Value) (k off : Nat) (cells : Array Value), (l.zipIdx k).foldl (fun cs p => cs.setIfInBounds (off + p.2) p.1) cells = (setL cells.toList (off + k) l).toArray
  | [], k, off, cells => by simp [setL]
  | x :: l, k, off, cells => by
    simp only [List.zipIdx_cons, List.foldl_cons, setL]
    rw [fill_fold l (k + 1) off]
    simp [Nat.add_assoc]

theorem fill_sound {α : Type} {pl : Nat → Option (Nat × Nat)} {f : α → V} {g : α → Value} : ∀ (l : List (Nat × α)) {cells cs : List V} {us : List Value}, (∀ p ∈ l, RV w Pr β (f p.2) (g p.2)) → RL w Pr β cells us →
    fillE pl cells (l.map fun p => (p.1, f p.2)) = some cs → ∃ us', Instr.fill pl us.toArray (l.map fun p => (p.1, g p.2)) = some us'.toArray ∧ RL w Pr β cs us'
  | [], cells, cs, us, _, hr, he => by
    simp [fillE] at he
    subst he
    exact ⟨us, rfl, hr⟩
  | p :: l, cells, cs, us, hp, hr, he => by
    simp only [List.map_cons, fillE] at he
    cases hpl : pl p.1 with
    | none => simp [hpl] at he
    | some q =>
      simp only [hpl, Option.bind_some] at he
      split at he
      · rename_i hc
        obtain ⟨hfl, hsz, hle⟩ := hc
        have hv := hp p (by simp)
        have hrl : RL w Pr β (f p.2).cells (g p.2).cells.toList := hv.cells (by
          cases hfv : f p.2 with
          | agg cs => exact .inr ⟨cs, rfl⟩
          | _ => rw [hfv] at hfl; exact .inl (by simpa [V.cells, V.flat] using hfl))
        obtain ⟨us', h1, h2⟩ := fill_sound l (fun q hq => hp q (by simp [hq])) (hr.setL q.1 hrl) he
        refine ⟨us', ?_, h2⟩
        simp only [List.map_cons, Instr.fill, hpl]
        have e1 : (g p.2).cells.size = (f p.2).cells.length := by have := hrl.1; simpa using this
        have e2 : us.length = cells.length := hr.1
        rw [if_neg (by simp [e1, hsz, e2]; omega)]
        rw [← h1]
        congr 1
        rw [← Array.foldl_toList, Array.toList_zipIdx]
        rw [fill_fold]
        simp
      · cases he

theorem mapM_places : ∀ (fs : List Field), (∀ f ∈ fs, (P.info? f.type).isSome = true) → fs.mapM (fun f => (P.info? f.type).map fun i => (f.offset, i.size)) = some (fs.map fun f => (f.offset, szT P f.type))
  | [], _ => rfl
  | f :: fs, h => by
    obtain ⟨i, hi⟩ := Option.isSome_iff_exists.1 (h f (by simp))
    simp [List.mapM_cons, hi, mapM_places fs (fun g hg => h g (by simp [hg])), szT_of hi]

theorem buildE_sound {t : TypeId} {v : V} {parts : Array (Nat × Operand)} {ρ : Operand → V} {ev : Operand → Value} (hp : ∀ p ∈ parts.toList, RV w Pr β (ρ p.2) (ev p.2)) (he : buildE P t (parts.toList.map fun p => (p.1, ρ p.2)) = some v) :
    ∃ r, (Instr.build t (parts.map fun (i, x) => (i, ev x))).run P w = .ok r w ∧ RV w Pr β v r := by
  unfold buildE at he
  cases hti : tyI P t with
  | none => simp [hti] at he
  | some ti =>
    obtain ⟨inf, d, z, hinf, hd, hz, htd, hsz, _, hzero, _, hok⟩ := tyI_spec' hti
    simp only [hti, Option.bind_some] at he
    have hpe : (parts.map fun (i, x) => (i, ev x)).toList = parts.toList.map fun p => (p.1, ev p.2) := by simp
    split at he
    · rename_i fs hdd
      rw [htd] at hdd
      obtain ⟨gs, rfl, rfl⟩ := td_struct hdd
      cases hf : fillE (fun i => ((gs.toList.map fun f => (f.offset, szT P f.type, aggT P f.type))[i]?).map fun p => (p.1, p.2.1)) ti.zero (parts.toList.map fun p => (p.1, ρ p.2)) with
      | none => simp only [hf, Option.map_none] at he; cases he
      | some cs =>
        simp only [hf, Option.map_some, Option.some.injEq] at he
        subst he
        rw [hzero] at hf
        obtain ⟨us, h1, h2⟩ := fill_sound parts.toList hp (RL.zero z) hf
        refine ⟨.agg us.toArray, run_build w t _ us.toArray ?_, RV.mk_agg h2⟩
        unfold Program.built
        simp only [okD, List.all_eq_true, Bool.and_eq_true] at hok
        have hm := mapM_places (P := P) gs.toList (fun f hf => (hok f hf).1)
        simp only [hinf, hd, hz, hm, hpe]
        rw [← h1]
        congr 1
        funext i
        simp
        cases gs[i]? <;> rfl
    · rename_i m e hdd
      rw [htd] at hdd
      have := td_arr hdd
      subst this
      cases hte : tyI P e with
      | none => simp [hte] at he
      | some te =>
        obtain ⟨ie, de, ze, hie, hde, _, _, hse, _⟩ := tyI_spec hte
        simp only [hte, Option.bind_some, hse] at he
        cases hf : fillE (fun i => some (i * ie.size, ie.size)) ti.zero (parts.toList.map fun p => (p.1, ρ p.2)) with
        | none => simp [hf] at he
        | some cs =>
          simp [hf] at he
          subst he
          rw [hzero] at hf
          obtain ⟨us, h1, h2⟩ := fill_sound parts.toList hp (RL.zero z) hf
          refine ⟨.agg us.toArray, run_build w t _ us.toArray ?_, RV.mk_agg h2⟩
          unfold Program.built
          simp only [hinf, hd, hz, hie, hpe]
          rw [← h1]
    · cases he

/-! ### slices that are made -/
theorem rep_cells {α : Type} [Inhabited α] (z : Array α) (m : Nat) : (Array.range (m * z.size)).map (fun i => z[i % z.size]!) = (List.replicate m z.toList).flatten.toArray := by
  apply Array.ext'
  apply List.ext_getElem?
  intro p
  have hl : ∀ e ∈ List.replicate m z.toList, e.length = z.size := by
    intro e he
    rw [List.mem_replicate] at he
    simp [he.2]
  by_cases hp : p < m * z.size
  · have hsz : 0 < z.size := by rcases Nat.eq_zero_or_pos z.size with h0 | h0; (· rw [h0] at hp; simp at hp); exact h0
    have hq : p / z.size < m := by rw [Nat.div_lt_iff_lt_mul hsz]; exact hp
    have hk : p % z.size < z.size := Nat.mod_lt _ hsz
    have hpq : p = p / z.size * z.size + p % z.size := by rw [Nat.mul_comm]; exact (Nat.div_add_mod p z.size).symm
    conv => rhs; rw [hpq]
    rw [flatten_get _ (p / z.size) (p % z.size) z.toList hl (by simp [List.getElem?_replicate, hq]) hk]
    simp [hp, hk]
  · have h2 : (List.replicate m z.toList).flatten.length = m * z.size := by rw [flatten_length _ hl]; simp
    rw [List.getElem?_eq_none (by simp; omega), List.getElem?_eq_none (by rw [h2]; omega)]

theorem setE_sound {α : Type} {sz : Nat} {f : α → V} {g : α → Value} : ∀ (l : List (Nat × α)) {es es' : List (List V)} {us : List Value}, (∀ p ∈ l, RV w Pr β (f p.2) (g p.2)) → (∀ e ∈ es, e.length = sz) → RL w Pr β es.flatten us →
    setE es (l.map fun p => (p.1, f p.2)) = some es' → ∃ us', Instr.fill (fun i => some (i * sz, sz)) us.toArray (l.map fun p => (p.1, g p.2)) = some us'.toArray ∧ RL w Pr β es'.flatten us' ∧ (∀ e ∈ es', e.length = sz) ∧ es'.length = es.length
  | [], es, es', us, _, hl, hr, he => by
    simp [setE] at he
    subst he
    exact ⟨us, rfl, hr, hl, rfl⟩
  | p :: l, es, es', us, hp, hl, hr, he => by
    simp only [List.map_cons, setE] at he
    cases hj : es[p.1]? with
    | none => simp [hj] at he
    | some e =>
      simp only [hj, Option.bind_some] at he
      split at he
      · rename_i hc
        obtain ⟨hfl, hsz⟩ := hc
        have hv := hp p (by simp)
        have hrl : RL w Pr β (f p.2).cells (g p.2).cells.toList := hv.cells (by
          cases hfv : f p.2 with
          | agg cs => exact .inr ⟨cs, rfl⟩
          | _ => rw [hfv] at hfl; exact .inl (by simpa [V.cells, V.flat] using hfl))
        have hjl := (List.getElem?_eq_some_iff.1 hj).1
        have hel : e.length = sz := hl e (List.mem_of_getElem? hj)
        have hcl : (f p.2).cells.length = sz := by omega
        have hset := flatten_set es p.1 (f p.2).cells hl hcl hjl
        obtain ⟨us', h1, h2, h3, h4⟩ := setE_sound l (es := es.set p.1 (f p.2).cells) (us := setL us (p.1 * sz) (g p.2).cells.toList) (fun q hq => hp q (by simp [hq]))
          (fun x hx => by rcases List.mem_or_eq_of_mem_set hx with h | h; (· exact hl x h); (· rw [h]; exact hcl)) (by rw [hset]; exact hr.setL _ hrl) he
        refine ⟨us', ?_, h2, h3, by simpa using h4⟩
        simp only [List.map_cons, Instr.fill]
        have e1 : (g p.2).cells.size = (f p.2).cells.length := by have := hrl.1; simpa using this
        have e2 : us.length = es.length * sz := by rw [hr.1, flatten_length es hl]
        have e3 : (p.1 + 1) * sz ≤ es.length * sz := Nat.mul_le_mul_right _ hjl
        rw [Nat.add_mul] at e3
        rw [if_neg (by simp [e1, hcl, e2]; omega)]
        rw [← h1]
        congr 1
        rw [← Array.foldl_toList, Array.toList_zipIdx]
        rw [fill_fold]
        simp
      · cases he

theorem mk_row (hh : Hp P w Pr β h) {w' : World} {β' : Bt} {b sz n c cap : Nat} {cs : Array Value} {t : TypeId} (hb : β'[h.length]? = some (b, sz)) (hn : n ≤ cap) (hc : c ≤ cap) (hw : w'.heap[b]? = some (.cells cs t (0, 0))) (hs : cap * sz ≤ cs.size) :
    RV w' Pr β' (.row h.length 0 n c) (.slice (some ⟨b, 0, none⟩) n cap) :=
  .row hb hn hc (fun _ => by simp) (fun cs' t' fz hcs => by
    rw [hw] at hcs
    injection hcs with hcs
    injection hcs with h1 h2 h3
    subst h1
    simpa using hs)

theorem bslE_sound (hh : Hp P w Pr β h) {t : TypeId} {len : Nat} {v : V} {h' : H} {parts : Array (Nat × Operand)} {ρ : Operand → V} {ev : Operand → Value} (hp : ∀ p ∈ parts.toList, RV w Pr β (ρ p.2) (ev p.2))
    (he : bslE P t len (parts.toList.map fun p => (p.1, ρ p.2)) h = some (v, h')) :
    ∃ r w' β', (Instr.buildSlice t len (parts.map fun (i, x) => (i, ev x))).run P w = .ok r w' ∧ Ext w Pr β w' Pr β' ∧ Hp P w' Pr β' h' ∧ RV w' Pr β' v r := by
  unfold bslE at he
  cases hti : tyI P t with
  | none => simp [hti] at he
  | some ti =>
    obtain ⟨inf, d, z, hinf, hd, hz, htd, hsz, _⟩ := tyI_spec hti
    simp only [hti, Option.bind_some] at he
    split at he
    · rename_i e hdd
      rw [htd] at hdd
      have := td_slice hdd
      subst this
      cases hte : tyI P e with
      | none => simp [hte] at he
      | some te =>
        obtain ⟨ie, de, ze, hie, hde, hze, _, hse, _, hzero, _⟩ := tyI_spec hte
        simp only [hte, Option.bind_some] at he
        split at he
        · rename_i hc
          obtain ⟨hc1, hc2⟩ := hc
          cases hs : setE (List.replicate len te.zero) (parts.toList.map fun p => (p.1, ρ p.2)) with
          | none => simp [hs] at he
          | some es =>
            simp only [hs, Option.map_some, Option.some.injEq, Prod.mk.injEq] at he
            obtain ⟨rfl, rfl⟩ := he
            have hzl : ze.cells.size = ie.size := by
              have h1 := (RL.zero (w := w) (Pr := Pr) (β := β) ze).1
              rw [← hzero] at h1
              simp at h1
              omega
            have hr0 : RL w Pr β (List.replicate len te.zero).flatten (List.replicate len ze.cells.toList).flatten := by rw [hzero]; exact (RL.zero ze).replicate len
            obtain ⟨us, h1, h2, h3, h4⟩ := setE_sound (sz := ie.size) parts.toList hp (fun x hx => by rw [List.mem_replicate] at hx; rw [hx.2]; omega) hr0 hs
            have hszT : szT P e = ie.size := szT_of hie
            obtain ⟨k1, k2⟩ := hh.allocCells (t := e) (es := es) (ex := true) (us := us) (sp := []) (by rw [hszT]; exact h3) h2 (fun _ => rfl)
            simp only [List.append_nil] at k1 k2
            have hel : es.length = len := by simpa using h4
            have hul : us.length = len * ie.size := by rw [h2.1, flatten_length es h3, hel]
            refine ⟨_, _, _, ?_, k1, k2, mk_row hh (cap := len) (beta_new hh _) (Nat.le_refl _) (Nat.le_refl _) (heap_alloc_new w _) (by rw [hszT]; simp [hul])⟩
            have hpe : (parts.map fun (i, x) => (i, ev x)).toList = parts.toList.map fun p => (p.1, ev p.2) := by simp
            have hlim : ¬ (2 ^ 24 < len * ie.size) := by rw [hse] at hc2; omega
            by_cases h0 : len * ie.size = 0
            · have hu0 : us = [] := List.eq_nil_of_length_eq_zero (by omega)
              have hr00 : (List.replicate len ze.cells.toList).flatten = [] := List.eq_nil_of_length_eq_zero (by rw [flatten_length (sz := ie.size) _ (fun x hx => by rw [List.mem_replicate] at hx; rw [hx.2]; simpa using hzl)]; simpa using h0)
              rw [hr00] at h1
              simp [Instr.buildSlice, run_underlying hd, run_sizeOf' w hie, h0, show Array.range 0 = #[] from rfl, h1, newRow]
            · have hcells := rep_cells ze.cells len
              rw [hzl] at hcells
              simp [Instr.buildSlice, run_underlying hd, run_sizeOf' w hie, h0, hlim, zeroValue, typeInfo, hie, hze, hzl, hcells, h1, newRow]
        · cases he
    · cases he

theorem mkSlE_sound (hh : Hp P w Pr β h) {t : TypeId} {l c v : V} {u1 u2 : Value} {h' : H} (hl : RV w Pr β l u1) (hc : RV w Pr β c u2) (he : mkSlE P t l c h = some (v, h')) :
    ∃ r w' β', (Instr.makeSlice t u1 u2).run P w = .ok r w' ∧ Ext w Pr β w' Pr β' ∧ Hp P w' Pr β' h' ∧ RV w' Pr β' v r := by
  unfold mkSlE at he
  cases hn : asI l with
  | none => simp [hn] at he
  | some n =>
    obtain ⟨k1, rfl⟩ := asI_inv hn hl
    cases hm : asI c with
    | none => simp [hn, hm] at he
    | some m =>
      obtain ⟨k2, rfl⟩ := asI_inv hm hc
      cases hti : tyI P t with
      | none => simp [hn, hm, hti] at he
      | some ti =>
        obtain ⟨inf, d, z, hinf, hd, hz, htd, hsz, _⟩ := tyI_spec hti
        simp only [hn, hm, hti, Option.bind_some] at he
        split at he
        · rename_i e hdd
          rw [htd] at hdd
          have := td_slice hdd
          subst this
          cases hte : tyI P e with
          | none => simp [hte] at he
          | some te =>
            obtain ⟨ie, de, ze, hie, hde, hze, _, hse, hby, hzero, _⟩ := tyI_spec hte
            simp only [hte, Option.bind_some] at he
            split at he
            · rename_i hcond
              obtain ⟨hc1, hc2, hc3, hc4, hc5⟩ := hcond
              simp only [Option.some.injEq, Prod.mk.injEq] at he
              obtain ⟨rfl, rfl⟩ := he
              have hzl : ze.cells.size = ie.size := by
                have h1 := (RL.zero (w := w) (Pr := Pr) (β := β) ze).1
                rw [← hzero] at h1
                simp at h1
                omega
              have hszT : szT P e = ie.size := szT_of hie
              have hlens : ∀ x ∈ List.replicate m.toNat te.zero, x.length = szT P e := fun x hx => by rw [List.mem_replicate] at hx; rw [hx.2]; omega
              have hr0 : RL w Pr β (List.replicate m.toNat te.zero).flatten (List.replicate m.toNat ze.cells.toList).flatten := by rw [hzero]; exact (RL.zero ze).replicate _
              obtain ⟨q1, q2⟩ := hh.allocCells (t := e) (es := List.replicate m.toNat te.zero) (ex := true) (us := (List.replicate m.toNat ze.cells.toList).flatten) (sp := []) hlens hr0 (fun _ => rfl)
              simp only [List.append_nil] at q1 q2
              have hul : (List.replicate m.toNat ze.cells.toList).flatten.length = m.toNat * ie.size := by rw [hr0.1, flatten_length _ hlens, hszT]; simp
              refine ⟨.slice (some ⟨w.heap.size, 0, none⟩) n.toNat m.toNat, _, _, ?_, q1, q2, mk_row hh (cap := m.toNat) (beta_new hh _) (by omega) (Nat.le_refl _) (heap_alloc_new w _) (by rw [hszT]; simp [hul])⟩
              have hwn : IntKind.i64.wrap n = n := by unfold IntKind.wrap; simp [IntKind.signed, IntKind.bits]; omega
              have hwm : IntKind.i64.wrap m = m := by unfold IntKind.wrap; simp [IntKind.signed, IntKind.bits]; omega
              have t1 : ¬ (m < 0) := by omega
              have t2 : ¬ (281474976710656 < (ie.bytes : Int) * m) := by rw [hby] at hc4; rw [Int.mul_comm]; omega
              have t3 : ¬ (n < 0) := by omega
              have t4 : ¬ (m < n) := by omega
              by_cases h0 : m.toNat * ie.size = 0
              · have hr00 : (List.replicate m.toNat ze.cells.toList).flatten = [] := List.eq_nil_of_length_eq_zero (by omega)
                rw [hr00]
                simp [Instr.makeSlice, run_underlying hd, asInt, asIntOf, typeInfo, hie, hwn, hwm, t1, t2, t3, t4, run_sizeOf' w hie, h0, show Array.range 0 = #[] from rfl, newRow]
              · have hcells := rep_cells ze.cells m.toNat
                rw [hzl] at hcells
                simp [Instr.makeSlice, run_underlying hd, asInt, asIntOf, typeInfo, hie, hwn, hwm, t1, t2, t3, t4, run_sizeOf' w hie, h0, zeroValue, hze, hzl, hcells, newRow]
            · cases he
        · cases he
end
end Go.Ab

set_option linter.unusedVariables false
set_option linter.unusedSimpArgs false
namespace Go.Ab

section
variable {P : Program} {w : World} {Pr : Nat → Prop} {β : Bt} {h : H}

/-! ### cuts -/
theorem bnd_inv {d n : Int} {x : Option V} (hb : bndE d x = some n) : (x = none ∧ n = d) ∨ ∃ v, x = some v ∧ asI v = some n := by
  cases x with
  | none => simp [bndE] at hb; exact .inl ⟨rfl, hb.symm⟩
  | some v => exact .inr ⟨v, rfl, hb⟩

/-- The bounds of a cut. -/
theorem bounds_run {s : Bool} {len cap : Nat} {lo hi : Option Operand} {ρ : Operand → V} {ev : Operand → Value} {l u : Int} (hlo : ∀ x, lo = some x → RV w Pr β (ρ x) (ev x)) (hhi : ∀ x, hi = some x → RV w Pr β (ρ x) (ev x))
    (h1 : bndE 0 (lo.map ρ) = some l) (h2 : bndE len (hi.map ρ) = some u) (hl : 0 ≤ l) (hu : l ≤ u) (hc : u ≤ cap) :
    (Instr.sliceBounds s len cap (lo.map ev) (hi.map ev) none).run P w = .ok (l.toNat, u.toNat, cap) w := by
  have key : ∀ (vl vu : Option Value), (vl = none ∧ l = 0 ∨ ∃ k, vl = some (.int k l)) → (vu = none ∧ u = len ∨ ∃ k, vu = some (.int k u)) → (Instr.sliceBounds s len cap vl vu none).run P w = .ok (l.toNat, u.toNat, cap) w := by
    intro vl vu e1 e2
    have q2 : ∀ c k, (Instr.sliceBound (.int k u) cap c).run P w = .ok u.toNat w := fun c k => run_sliceBound w k u cap _ (by omega) (by omega)
    have q1 : ∀ c k, (Instr.sliceBound (.int k l) u.toNat c).run P w = .ok l.toNat w := fun c k => run_sliceBound w k l u.toNat _ (by omega) (by omega)
    rcases e1 with ⟨rfl, rfl⟩ | ⟨k1, rfl⟩ <;> rcases e2 with ⟨rfl, rfl⟩ | ⟨k2, rfl⟩
    · simp [Instr.sliceBounds]
    · simp [Instr.sliceBounds, q2]
    · have := q1 .sliceB k1
      simp at this
      simp [Instr.sliceBounds, this]
    · simp [Instr.sliceBounds, q2, q1]
  refine key _ _ ?_ ?_
  · cases lo with
    | none => simp [bndE] at h1; exact .inl ⟨rfl, h1.symm⟩
    | some x =>
      simp only [Option.map_some, bndE] at h1 ⊢
      obtain ⟨k, hk⟩ := asI_inv h1 (hlo x rfl)
      exact .inr ⟨k, by rw [hk]⟩
  · cases hi with
    | none => simp [bndE] at h2; exact .inl ⟨rfl, h2.symm⟩
    | some x =>
      simp only [Option.map_some, bndE] at h2 ⊢
      obtain ⟨k, hk⟩ := asI_inv h2 (hhi x rfl)
      exact .inr ⟨k, by rw [hk]⟩

theorem slcE_sound (hh : Hp P w Pr β h) {t : TypeId} {x v : V} {u1 : Value} {lo hi : Option Operand} {ρ : Operand → V} {ev : Operand → Value} (hx : RV w Pr β x u1) (hlo : ∀ x, lo = some x → RV w Pr β (ρ x) (ev x)) (hhi : ∀ x, hi = some x → RV w Pr β (ρ x) (ev x))
    (he : slcE P t x (lo.map ρ) (hi.map ρ) h = some v) : ∃ r, (Instr.sliceAt t u1 (lo.map ev) (hi.map ev) none).run P w = .ok r w ∧ RV w Pr β v r := by
  unfold slcE at he
  cases hti : tyI P t with
  | none => simp [hti] at he
  | some ti =>
    obtain ⟨inf, d, z, hinf, hd, _, htd, _⟩ := tyI_spec hti
    simp only [hti, Option.bind_some] at he
    split at he
    · rename_i e b j n c hdd
      rw [htd] at hdd
      have := td_slice hdd
      subst this
      cases hte : tyI P e with
      | none => simp [hte] at he
      | some te =>
        obtain ⟨ie, de, ze, hie, hde, _, _, hse, _⟩ := tyI_spec hte
        cases hg : getB h b with
        | none => simp [hte, hg] at he
        | some q =>
          obtain ⟨qt, es, ex⟩ := q
          cases htq : tyI P qt with
          | none => simp [hte, hg, htq] at he
          | some tq =>
            obtain ⟨iq, dq, zq, hiq, hdq, _, _, hsq, _⟩ := tyI_spec htq
            simp only [hte, hg, htq, Option.bind_some] at he
            cases hl : bndE 0 (lo.map ρ) with
            | none => simp [hl] at he
            | some l =>
              cases hu : bndE n (hi.map ρ) with
              | none => simp [hl, hu] at he
              | some u =>
                simp only [hl, hu, Option.bind_some] at he
                split at he
                · rename_i hc
                  obtain ⟨c1, c2, c3, c4⟩ := hc
                  injection he with he
                  subst he
                  obtain ⟨A, cap, bb, sz, rfl, hb, h1, h2, h3, h4⟩ := hx.row_inv
                  have hsz := blk_sz hh (getB_spec hg) hb
                  rw [szT_of hiq] at hsz
                  have hbr := bounds_run (P := P) (s := true) (len := n) (cap := cap) hlo hhi hl hu c2 c3 (by omega)
                  refine ⟨_, by simp only [Instr.sliceAt, Instr.slice, Sem.run_bind, run_underlying hd, Result.andThen_ok, hbr, run_sizeOf' w hie, Sem.run_pure]; rfl, ?_⟩
                  have hes : (u - l).toNat = u.toNat - l.toNat := by omega
                  rw [hes]
                  refine .row hb (by omega) (by omega) (fun h0 => ?_) (fun cs t' fz hcs => ?_)
                  · rw [if_neg (by omega), h3 (by omega)]
                    simp only [Option.map_some, add_none]
                    rw [hse, hsq] at c1
                    rw [c1, hsz, Nat.add_mul]
                  · have := h4 cs t' fz hcs
                    have hle : (j + l.toNat + (cap - l.toNat)) = j + cap := by omega
                    rw [hle]
                    exact this
                · cases he
    · rename_i e sz es hdd
      rw [htd] at hdd
      have := td_slice hdd
      subst this
      cases hte : tyI P e with
      | none => simp [hte] at he
      | some te =>
        obtain ⟨ie, de, ze, hie, hde, _, _, hse, _⟩ := tyI_spec hte
        simp only [hte, Option.bind_some] at he
        cases hl : bndE 0 (lo.map ρ) with
        | none => simp [hl] at he
        | some l =>
          cases hu : bndE es.length (hi.map ρ) with
          | none => simp [hl, hu] at he
          | some u =>
            simp only [hl, hu, Option.bind_some] at he
            split at he
            · rename_i hc
              obtain ⟨c1, c2, c3, c4⟩ := hc
              injection he with he
              subst he
              cases hx with
              | tr hr =>
                have hes : (u - l).toNat = u.toNat - l.toNat := by omega
                cases hr with
                | nl _ A c =>
                  have hbr := bounds_run (P := P) (s := true) (len := 0) (cap := c) hlo hhi hl hu c2 c3 (by simp at c4; omega)
                  refine ⟨_, by simp only [Instr.sliceAt, Instr.slice, Sem.run_bind, run_underlying hd, Result.andThen_ok, hbr, run_sizeOf' w hie, Sem.run_pure]; rfl, ?_⟩
                  have h0 : u.toNat - l.toNat = 0 := by simp at c4; omega
                  rw [h0]
                  simp only [List.drop_nil, List.take_nil]
                  exact .tr (.nl sz _ _)
                | sl _ _ b o n c f hn hc hp hs hw hr =>
                  have hbr := bounds_run (P := P) (s := true) (len := n) (cap := c) hlo hhi hl (by rw [hn]; exact hu) c2 c3 (by omega)
                  refine ⟨_, by simp only [Instr.sliceAt, Instr.slice, Sem.run_bind, run_underlying hd, Result.andThen_ok, hbr, run_sizeOf' w hie, Sem.run_pure]; rfl, ?_⟩
                  rw [hes]
                  by_cases h0 : u.toNat - l.toNat = 0
                  · rw [h0]
                    simp only [List.take_zero]
                    exact .tr (.nl sz _ _)
                  · rw [if_neg (by omega)]
                    simp only [Option.map_some, add_none]
                    rw [hse] at c1
                    rw [c1]
                    refine .tr (.sl sz _ b (o + l.toNat * sz) _ _ (fun j k => f (l.toNat + j) k) (by simp; omega) (by omega) hp (fun j ts hj => ?_) (fun j ts k t hj hk => ?_) (fun j ts k t hj hk => ?_))
                    all_goals
                      rw [List.getElem?_take] at hj
                      split at hj
                      rotate_left
                      · cases hj
                      rw [List.getElem?_drop] at hj
                    · exact hs _ ts hj
                    · have := hw _ ts k t hj hk
                      rw [Nat.add_mul] at this
                      rw [show o + l.toNat * sz + (j * sz + k) = o + (l.toNat * sz + j * sz + k) from by omega]
                      exact this
                    · exact hr _ ts k t hj hk
            · cases he
    · rename_i e hdd
      rw [htd] at hdd
      have := td_slice hdd
      subst this
      cases hte : tyI P e with
      | none => simp [hte] at he
      | some te =>
      obtain ⟨ie, de, ze, hie, hde, _, _, hse, _⟩ := tyI_spec hte
      cases hl : bndE 0 (lo.map ρ) with
      | none => simp [hte, hl] at he
      | some l =>
        cases hu : bndE 0 (hi.map ρ) with
        | none => simp [hte, hl, hu] at he
        | some u =>
          simp only [hte, hl, hu, Option.bind_some] at he
          split at he
          · rename_i hc
            obtain ⟨rfl, rfl⟩ := hc
            injection he with he
            subst he
            rw [hx.sc_inv]
            have hbr := bounds_run (P := P) (w := w) (Pr := Pr) (β := β) (s := true) (len := 0) (cap := 0) hlo hhi hl hu (by omega) (by omega) (by omega)
            exact ⟨_, by simp [Instr.sliceAt, Instr.slice, run_underlying hd, hbr, run_sizeOf' w hie], RV.mk_sc _⟩
          · cases he
    · rename_i s hdd
      rw [htd] at hdd
      have := td_str hdd
      subst this
      cases hl : bndE 0 (lo.map ρ) with
      | none => simp [hl] at he
      | some l =>
        cases hu : bndE s.size (hi.map ρ) with
        | none => simp [hl, hu] at he
        | some u =>
          simp only [hl, hu, Option.bind_some] at he
          split at he
          · rename_i hc
            obtain ⟨c1, c2, c3⟩ := hc
            injection he with he
            subst he
            rw [hx.sc_inv]
            have hbr := bounds_run (P := P) (s := false) (len := s.size) (cap := s.size) hlo hhi hl hu c1 c2 c3
            exact ⟨_, by simp [Instr.sliceAt, Instr.slice, run_underlying hd, hbr], RV.mk_sc _⟩
          · cases he
    · cases he
end
end Go.Ab

set_option linter.unusedVariables false
set_option linter.unusedSimpArgs false
namespace Go.Ab

section
variable {P : Program} {w : World} {Pr : Nat → Prop} {β : Bt} {h : H}

/-- A source of elements: what append reads of it. -/
def Src (w : World) (sz n : Nat) (u : Value) (news : List Value) : Prop :=
  ∃ A cap, u = .slice A n cap ∧ news.length = n * sz ∧ (∀ b : Addr, A = some b → ∀ (k : Nat) (v : Value), news[k]? = some v → w.cell? (b.add k) = some v) ∧ (A = none → n = 0)

theorem Src.first {sz n : Nat} {u : Value} {news : List Value} (hs : Src w sz n u news) : (Builtin.firstCells sz n u).run P w = .ok news.toArray w := by
  obtain ⟨A, cap, rfl, hl, hc, hn⟩ := hs
  cases A with
  | none =>
    rw [hn rfl] at hl
    have : news = [] := List.eq_nil_of_length_eq_zero (by simpa using hl)
    subst this
    simp [Builtin.firstCells]
  | some b => exact run_firstCells_some w sz n b n cap news hl (fun j v hj => hc b rfl j v hj)

theorem Src.len {sz n : Nat} {u : Value} {news : List Value} (hs : Src w sz n u news) : (Builtin.lenOf u).run P w = .ok n w := by
  obtain ⟨A, cap, rfl, _⟩ := hs
  simp [Builtin.lenOf]

theorem elems_src (hh : Hp P w Pr β h) {x : V} {u : Value} {ys : List (List V)} {sz : Nat} (hx : RV w Pr β x u) (he : elemsE h x = some ys) (hl : ∀ y ∈ ys, y.length = sz)
    (hb : ∀ (i j n c : Nat) (t : TypeId) (es : List (List V)) (ex : Bool), x = .row i j n c → getB h i = some (t, es, ex) → ∀ e ∈ es, e.length = sz) : ∃ news, Src w sz ys.length u news ∧ RL w Pr β ys.flatten news := by
  unfold elemsE at he
  split at he
  · simp at he
    subst he
    rw [hx.sc_inv]
    exact ⟨[], ⟨none, 0, rfl, by simp, fun b hb => by simp at hb, fun _ => rfl⟩, .nil⟩
  · rename_i s es
    simp at he
    subst he
    cases hx with
    | tr hr =>
      cases hr with
      | nl _ A c => exact ⟨[], ⟨A, c, rfl, by simp, fun b _ k v hk => by simp at hk, fun _ => rfl⟩, .nil⟩
      | sl _ _ b o n c f hn hc hp hs hw hr =>
        have hlen : ∀ e ∈ es, e.length = sz := fun e he => by have := hl (e.map .tr) (List.mem_map.2 ⟨e, he, rfl⟩); simpa using this
        have hss : es ≠ [] → s = sz := fun hne => by
          obtain ⟨e, es', rfl⟩ := List.exists_cons_of_ne_nil hne
          rw [← hs 0 e rfl]; exact hlen e (by simp)
        let g : List (List Value) := (List.range es.length).map fun j => (List.range sz).map (f j)
        have hg : ∀ e ∈ g, e.length = sz := fun e he => by
          obtain ⟨j, _, rfl⟩ := List.mem_map.1 he
          simp
        have hgj : ∀ j e, es[j]? = some e → g[j]? = some ((List.range sz).map (f j)) := fun j e hj => by
          have := (List.getElem?_eq_some_iff.1 hj).1
          simp [g, this]
        have hfl : (es.map fun e => e.map V.tr).flatten.length = es.length * sz := by
          rw [flatten_length (sz := sz) _ (by intro e he; obtain ⟨e', he', rfl⟩ := List.mem_map.1 he; simpa using hlen e' he')]
          simp
        have hgl : g.flatten.length = es.length * sz := by rw [flatten_length _ hg]; simp [g]
        have hpos : ∀ p, p < es.length * sz → ∃ j k e, j * sz + k = p ∧ k < sz ∧ es[j]? = some e := fun p hp => by
          have hsz : 0 < sz := by rcases Nat.eq_zero_or_pos sz with h0 | h0; (· rw [h0] at hp; simp at hp); exact h0
          have hq : p / sz < es.length := by rw [Nat.div_lt_iff_lt_mul hsz]; exact hp
          exact ⟨p / sz, p % sz, es[p / sz], by rw [Nat.mul_comm]; exact Nat.div_add_mod p sz, Nat.mod_lt _ hsz, List.getElem?_eq_getElem hq⟩
        refine ⟨g.flatten, ⟨some ⟨b, o, none⟩, c, by simp [hn], by simpa using hgl, fun b' hb' p v hp => ?_, fun h0 => by cases h0⟩, ⟨by rw [hfl, hgl], fun p v u' hv hu => ?_⟩⟩
        · injection hb' with hb'
          subst hb'
          have hlt : p < es.length * sz := by rw [← hgl]; exact (List.getElem?_eq_some_iff.1 hp).1
          obtain ⟨j, k, e, rfl, hk, hj⟩ := hpos p hlt
          rw [flatten_get g j k _ hg (hgj j e hj) hk] at hp
          have hel := hlen e (List.mem_of_getElem? hj)
          have := hw j e k e[k] hj (List.getElem?_eq_getElem (by omega))
          rw [hss (fun h0 => by rw [h0] at hj; simp at hj)] at this
          rw [add_none, this]
          simp [hk] at hp
          rw [hp]
        · have hlt : p < es.length * sz := by rw [← hgl]; exact (List.getElem?_eq_some_iff.1 hu).1
          obtain ⟨j, k, e, rfl, hk, hj⟩ := hpos p hlt
          rw [flatten_get g j k _ hg (hgj j e hj) hk] at hu
          have hel := hlen e (List.mem_of_getElem? hj)
          rw [flatten_get (sz := sz) _ j k (e.map .tr) (by intro e he; obtain ⟨e', he', rfl⟩ := List.mem_map.1 he; simpa using hlen e' he') (by simp [hj]) hk] at hv
          simp [hk, hel] at hu hv
          subst hu hv
          exact .tr (hr j e k e[k] hj (List.getElem?_eq_getElem (by omega)))
  · rename_i i j n c
    cases hg : getB h i with
    | none => simp [hg] at he
    | some q =>
      obtain ⟨t, es, ex⟩ := q
      simp only [hg, Option.bind_some] at he
      split at he
      · rename_i hjn
        injection he with he
        subst he
        obtain ⟨A, cap, b, sz', rfl, hbb, h1, h2, h3, h4⟩ := hx.row_inv
        have hib := getB_spec hg
        obtain ⟨cs, g1, g2, g3, g4, g5, g6⟩ := hh.blk i _ b sz' hib hbb
        have hall := hb i j n c t es ex rfl hg
        have hes : es.length ≠ 0 → sz' = sz := fun hne => by
          have hlt : 0 < es.length := by omega
          rw [← g3 0 es[0] (List.getElem?_eq_getElem hlt)]
          exact hall _ (List.getElem_mem hlt)
        have hln : ((es.drop j).take n).length = n := by simp; omega
        have hfl : (((es.drop j).take n).flatten).length = n * sz := by rw [flatten_length (sz := sz) _ hl, hln]
        refine ⟨(cs.toList.drop (j * sz')).take (n * sz), ⟨A, cap, by rw [hln], ?_, fun a ha p v hp => ?_, fun hA => ?_⟩, ⟨?_, fun p v u' hv hu => ?_⟩⟩
        · rw [hln]
          by_cases hn0 : n = 0
          · subst hn0; simp
          · have e1 := hes (by omega)
            have hle : (j + n) * sz' ≤ es.length * sz' := Nat.mul_le_mul_right _ hjn
            rw [Nat.add_mul] at hle
            rw [e1] at hle g4 ⊢
            simp
            omega
        · rcases Nat.eq_zero_or_pos cap with h0 | h0
          · have : n = 0 := by omega
            subst this
            simp at hp
          · rw [h3 h0] at ha
            injection ha with ha
            subst ha
            rw [add_none, cell_of_row w b _ cs t (0, 0) g1]
            rw [List.getElem?_take] at hp
            split at hp
            · rw [List.getElem?_drop, Array.getElem?_toList] at hp; exact hp
            · cases hp
        · rw [hln]
          rcases Nat.eq_zero_or_pos cap with h0 | h0
          · omega
          · rw [h3 h0] at hA; cases hA
        · rw [hfl]
          by_cases hn0 : n = 0
          · subst hn0; simp
          · have e1 := hes (by omega)
            have hle : (j + n) * sz' ≤ es.length * sz' := Nat.mul_le_mul_right _ hjn
            rw [Nat.add_mul] at hle
            rw [e1] at hle g4 ⊢
            simp
            omega
        · have hlt : p < n * sz := by rw [← hfl]; exact (List.getElem?_eq_some_iff.1 hv).1
          have hsz : 0 < sz := by rcases Nat.eq_zero_or_pos sz with h0 | h0; (· rw [h0] at hlt; simp at hlt); exact h0
          have hq : p / sz < n := by rw [Nat.div_lt_iff_lt_mul hsz]; exact hlt
          have hk : p % sz < sz := Nat.mod_lt _ hsz
          have hpq : p / sz * sz + p % sz = p := by rw [Nat.mul_comm]; exact Nat.div_add_mod p sz
          have hj' : j + p / sz < es.length := by omega
          have e1 := hes (Nat.ne_of_gt (Nat.lt_of_le_of_lt (Nat.zero_le _) hj'))
          rw [← hpq, flatten_get (sz := sz) _ (p / sz) (p % sz) es[j + p / sz] hl (by simp [hq, List.getElem?_take, List.getElem?_drop, hj']) hk] at hv
          obtain ⟨u2, k1, k2⟩ := g6 (j + p / sz) _ (p % sz) v (List.getElem?_eq_getElem hj') hv
          rw [List.getElem?_take, if_pos hlt, List.getElem?_drop, Array.getElem?_toList] at hu
          rw [e1, Nat.add_mul, Nat.add_assoc, hpq] at k1
          rw [e1] at hu
          rw [k1] at hu
          injection hu with hu
          subst hu
          exact k2
      · cases he
  · cases he

/-- What lies behind a slice's elements. -/
theorem Hp.kill (hh : Hp P w Pr β h) (i : Nat) : Hp P w Pr β (h.set i .gone) where
  len := by simp [hh.len]
  lt := hh.lt
  blk := fun k z c s h1 h2 => by
    by_cases hki : k = i
    · subst hki
      have hlt : k < h.length := by rw [← hh.len]; exact (List.getElem?_eq_some_iff.1 h2).1
      rw [List.getElem?_set_self hlt] at h1
      injection h1 with h1
      subst h1
      trivial
    · rw [List.getElem?_set_ne (Ne.symm hki)] at h1
      exact hh.blk k z c s h1 h2
  inj := fun k k' b s s' h1 h2 q1 q2 => by
    refine hh.inj k k' b s s' ?_ ?_ q1 q2
    · obtain ⟨z, hz, hn⟩ := h1
      by_cases hki : k = i
      · subst hki
        have hlt : k < h.length := by rw [← hh.len]; exact (List.getElem?_eq_some_iff.1 q1).1
        rw [List.getElem?_set_self hlt] at hz
        injection hz with hz
        exact absurd hz.symm hn
      · rw [List.getElem?_set_ne (Ne.symm hki)] at hz; exact ⟨z, hz, hn⟩
    · obtain ⟨z, hz, hn⟩ := h2
      by_cases hki : k' = i
      · subst hki
        have hlt : k' < h.length := by rw [← hh.len]; exact (List.getElem?_eq_some_iff.1 q2).1
        rw [List.getElem?_set_self hlt] at hz
        injection hz with hz
        exact absurd hz.symm hn
      · rw [List.getElem?_set_ne (Ne.symm hki)] at hz; exact ⟨z, hz, hn⟩
  prot := hh.prot
  plt := hh.plt

/-- The former block goes by a new name. -/
theorem Hp.rename (hh : Hp P w Pr β h) {i b sz : Nat} {t : TypeId} {es : List (List V)} (hi : β[i]? = some (b, sz)) (hg : h[i]? = some .gone) (hfree : ∀ k s, live h k → β[k]? ≠ some (b, s)) {c : Array Value} (hc : w.heap[b]? = some (.cells c t (0, 0))) (hsz : szT P t = sz)
    (hl : ∀ (j : Nat) (e : List V), es[j]? = some e → e.length = sz) (hb : es.length * sz ≤ c.size) (hr : ∀ (j : Nat) (e : List V) (k : Nat) (v : V), es[j]? = some e → e[k]? = some v → ∃ u, c[j * sz + k]? = some u ∧ RV w Pr β v u) :
    Ext w Pr β w Pr (β ++ [(b, sz)]) ∧ Hp P w Pr (β ++ [(b, sz)]) (h ++ [.cells t es false]) := by
  have e : Ext w Pr β w Pr (β ++ [(b, sz)]) :=
    { size := Nat.le_refl _, os := rfl, tape := rfl, out := rfl, pr := fun _ h => h, new := fun _ h => .inl h
      be := fun i x hx => by rw [List.getElem?_append_left (List.getElem?_eq_some_iff.1 hx).1]; exact hx
      bn := fun k b' s hb' => by
        rcases getElem?_append_one hb' with h1 | ⟨_, h1⟩
        · exact .inl ⟨k, s, h1⟩
        · injection h1 with h1 h2; subst h1 h2; exact .inl ⟨i, s, hi⟩
      sz := fun b cs' t fz _ h => ⟨cs', t, fz, h, Nat.le_refl _⟩
      keep := fun _ _ _ => rfl }
  refine ⟨e, { len := by simp [hh.len], lt := ?_, blk := ?_, inj := ?_, prot := ?_, plt := hh.plt }⟩
  · intro k b' s hb'
    rcases getElem?_append_one hb' with h1 | ⟨_, h1⟩
    · exact hh.lt k b' s h1
    · injection h1 with h1 h2; subst h1 h2; exact hh.lt i _ _ hi
  · intro k z b' s h1 h2
    rcases getElem?_append_one h2 with h3 | ⟨h3, h4⟩
    · have hk : k < h.length := by rw [← hh.len]; exact (List.getElem?_eq_some_iff.1 h3).1
      rw [List.getElem?_append_left hk] at h1
      exact (hh.blk k z b' s h1 h3).of (fun v u hv => e.rv hh hv) rfl
    · injection h4 with h4 h5
      subst h4 h5
      rw [h3, hh.len] at h1
      simp at h1
      subst h1
      exact ⟨c, hc, hsz, hl, hb, fun h0 => by simp at h0, fun j e' k v hj hk => (hr j e' k v hj hk).imp fun u ⟨q, r⟩ => ⟨q, e.rv hh r⟩⟩
  · intro k k' b' s s' h1 h2 q1 q2
    have hlive : ∀ k, live (h ++ [.cells t es false]) k → k < h.length → live h k := fun k ⟨z, hz, hn⟩ hk => by
      rw [List.getElem?_append_left hk] at hz; exact ⟨z, hz, hn⟩
    rcases getElem?_append_one q1 with h3 | ⟨h3, h4⟩ <;> rcases getElem?_append_one q2 with h5 | ⟨h5, h6⟩
    · have hk : k < h.length := by rw [← hh.len]; exact (List.getElem?_eq_some_iff.1 h3).1
      have hk' : k' < h.length := by rw [← hh.len]; exact (List.getElem?_eq_some_iff.1 h5).1
      exact hh.inj k k' b' s s' (hlive k h1 hk) (hlive k' h2 hk') h3 h5
    · have hk : k < h.length := by rw [← hh.len]; exact (List.getElem?_eq_some_iff.1 h3).1
      injection h6 with h6 h7
      subst h6 h7
      exact absurd h3 (hfree k s (hlive k h1 hk))
    · have hk' : k' < h.length := by rw [← hh.len]; exact (List.getElem?_eq_some_iff.1 h5).1
      injection h4 with h4 h7
      subst h4 h7
      exact absurd h5 (hfree k' s' (hlive k' h2 hk'))
    · omega
  · intro k b' s hb'
    rcases getElem?_append_one hb' with h1 | ⟨_, h1⟩
    · exact hh.prot k b' s h1
    · injection h1 with h1 h2; subst h1 h2; exact hh.prot i _ _ hi
end
end Go.Ab

set_option linter.unusedVariables false
set_option linter.unusedSimpArgs false
namespace Go.Ab

theorem grown_le (w : World) (need old : Nat) (e : TypeId) : need ≤ grownCap w need old e := by
  simp [grownCap, Question.cut]

theorem zeroCells_len (z : Array Value) (n : Nat) : (Builtin.zeroCells z n).size = n * z.size := by simp [Builtin.zeroCells]

section
variable {P : Program} {w : World} {Pr : Nat → Prop} {β : Bt} {h : H}

theorem run_app_grow {t t2 ty e e2 : TypeId} {i : TypeInfo} {z : Value} (ht : P.underlying t = some (.slice e)) (ht2 : P.underlying t2 = some (.slice e2)) (hi : P.info? e = some i) (hz : i.zero = some z)
    {A : Option Addr} {sLen sCap n : Nat} {olds news : List Value} {x : Value} (hs : Src w i.size sLen (.slice A sLen sCap) olds) (hx : Src w i.size n x news)
    (hg : sCap < sLen + n) (h63 : sLen + n ≤ 9223372036854775807) (hfit : (sLen + n) * i.bytes ≤ 140737488355328) :
    (Builtin.append_ #[t, t2] ty #[.slice A sLen sCap, x]).run P w =
      .ok (.slice (some ⟨w.heap.size, 0, none⟩) (sLen + n) (grownCap w (sLen + n) sCap e))
        (w.drew.alloc (.cells ((olds ++ news) ++ (Builtin.zeroCells z.cells (grownCap w (sLen + n) sCap e - (sLen + n))).toList).toArray e)) := by
  have hn : ¬ (sLen + n ≤ sCap) := by omega
  have h63' : ¬ (9223372036854775807 < ((sLen : Int) + (n : Int))) := by omega
  have h48' : ¬ (281474976710656 < Builtin.nextslicecap (sLen + n) sCap * i.bytes) := by have := growslice_fits hg hfit; omega
  have hs' : Src w.drew i.size sLen (.slice A sLen sCap) olds := hs
  have hx' : Src w.drew i.size n x news := hx
  have f1 := hs'.first (P := P)
  have f2 := hx'.first (P := P)
  have l1 := hx.len (P := P)
  obtain ⟨A', cap', rfl, hrest⟩ := hx
  simp [Builtin.append_, run_underlying ht, run_underlying ht2, sizeOf, typeInfo, zeroValue, hi, hz, Builtin.lenOf, hn, h63', h48', Question.forced, f1, f2, newRow, grownCap]
  congr 2
  apply Array.ext'
  simp [List.append_assoc]

theorem run_app_room {t t2 ty e e2 : TypeId} {i : TypeInfo} (ht : P.underlying t = some (.slice e)) (ht2 : P.underlying t2 = some (.slice e2)) (hi : P.info? e = some i)
    {A : Option Addr} {sLen sCap n : Nat} {news : List Value} {x : Value} (hx : Src w i.size n x news) (hg : sLen + n ≤ sCap) {w' : World} (hst : ∀ a, A = some a → (storeCells (a.add (sLen * i.size)) news).run P w = .ok () w') (hnone : A = none → w' = w) :
    (Builtin.append_ #[t, t2] ty #[.slice A sLen sCap, x]).run P w = .ok (.slice A (sLen + n) sCap) w' := by
  have f2 := hx.first (P := P)
  obtain ⟨A', cap', rfl, hrest⟩ := hx
  cases A with
  | none =>
    rw [hnone rfl]
    simp [Builtin.append_, run_underlying ht, run_underlying ht2, sizeOf, typeInfo, hi, Builtin.lenOf, hg, f2]
  | some a =>
    have := hst a rfl
    simp [Builtin.append_, run_underlying ht, run_underlying ht2, sizeOf, typeInfo, hi, Builtin.lenOf, hg, f2, this]

/-- The memory of a block that no name stands for any more. -/
theorem Hp.writeGone (hh : Hp P w Pr β h) {i b sz : Nat} {c c' : Array Value} {t : TypeId} (hi : β[i]? = some (b, sz)) (hg : h[i]? = some .gone) (hfree : ∀ k s, live h k → β[k]? ≠ some (b, s)) (hc : w.heap[b]? = some (.cells c t (0, 0))) (hs : c.size = c'.size) :
    Ext w Pr β (w.setRow b c') Pr β ∧ Hp P (w.setRow b c') Pr β h := by
  have e : Ext w Pr β (w.setRow b c') Pr β := Ext.write hi (by simp) rfl rfl rfl (fun k hk => setRow_other w b k c' hk) (fun cs' t' fz hcs => by
    rw [setRow_heap w b c c' t (0, 0) hc] at hcs
    injection hcs with hcs
    injection hcs with h1 h2 h3
    subst h1
    exact ⟨c, t, (0, 0), hc, by omega⟩)
  refine ⟨e, { len := hh.len, lt := fun i b s hb => by rw [setRow_size]; exact hh.lt i b s hb, blk := fun k z b' s h1 h2 => ?_, inj := hh.inj, prot := hh.prot, plt := fun b hb => by rw [setRow_size]; exact hh.plt b hb }⟩
  cases z with
  | gone => trivial
  | cells t' es ex => exact (hh.blk k _ b' s h1 h2).of (fun v u hv => e.rv hh hv) (setRow_other w b b' c' fun he => hfree k s ⟨_, h1, by simp⟩ (he ▸ h2))
  | map es cl => exact (hh.blk k _ b' s h1 h2).of (fun v u hv => e.rv hh hv) (setRow_other w b b' c' fun he => hfree k s ⟨_, h1, by simp⟩ (he ▸ h2))
  | str st p => exact (hh.blk k _ b' s h1 h2).of (fun v u hv => e.rv hh hv) (setRow_other w b b' c' fun he => hfree k s ⟨_, h1, by simp⟩ (he ▸ h2))

theorem appE_sound (hh : Hp P w Pr β h) {t t2 ty : TypeId} {s x v : V} {u1 u2 : Value} {h' : H} (hs : RV w Pr β s u1) (hx : RV w Pr β x u2) (he : appE P t t2 s x h = some (v, h')) :
    ∃ r w' β', (Builtin.append_ #[t, t2] ty #[u1, u2]).run P w = .ok r w' ∧ Ext w Pr β w' Pr β' ∧ Hp P w' Pr β' h' ∧ RV w' Pr β' v r := by
  unfold appE at he
  cases hti : tyI P t with
  | none => simp [hti] at he
  | some ti =>
  cases hti2 : tyI P t2 with
  | none => simp [hti, hti2] at he
  | some ti2 =>
  obtain ⟨inf, d, zt, hinf, hd, _, htd, _⟩ := tyI_spec hti
  obtain ⟨inf2, d2, zt2, hinf2, hd2, _, htd2, _⟩ := tyI_spec hti2
  simp only [hti, hti2, Option.bind_some] at he
  split at he
  rotate_left
  · cases he
  rename_i e e2 hdd hdd2
  rw [htd] at hdd
  rw [htd2] at hdd2
  have := td_slice hdd
  subst this
  have := td_slice hdd2
  subst this
  cases hte : tyI P e with
  | none => simp [hte] at he
  | some te =>
  obtain ⟨ie, de, ze, hie, hde, hze, _, hse, hby, hzero, _⟩ := tyI_spec hte
  cases hys : elemsE h x with
  | none => simp [hte, hys] at he
  | some ys =>
  simp only [hte, hys, Option.bind_some] at he
  split at he
  rotate_left
  · cases he
  rename_i hcond
  obtain ⟨hc1, hc2, hc3⟩ := hcond
  have hszT : szT P e = ie.size := szT_of hie
  have hyl : ∀ y ∈ ys, y.length = ie.size := fun y hy => by
    have := (List.all_eq_true.1 hc3) y hy
    simp at this
    omega
  have hy1 : ys.flatten.all V.one = true := by
    rw [List.all_eq_true]
    intro c hc
    obtain ⟨y, hy, hcy⟩ := List.mem_flatten.1 hc
    have := (List.all_eq_true.1 hc3) y hy
    simp only [Bool.and_eq_true] at this
    exact (List.all_eq_true.1 this.2) c hcy
  have hrowb : ∀ (i j n c : Nat) (t : TypeId) (es : List (List V)) (ex : Bool), x = .row i j n c → getB h i = some (t, es, ex) → es ≠ [] → ys ≠ [] → ∀ e ∈ es, e.length = ie.size := by
    intro i j n c t es ex hxr hg hne hyne e' he'
    subst hxr
    obtain ⟨b, sz, hb⟩ := hh.at (getB_spec hg)
    obtain ⟨cc, _, _, g3, _⟩ := hh.blk i _ b sz (getB_spec hg) hb
    have hall : ∀ e ∈ es, e.length = sz := fun e he => by
      obtain ⟨k, hk, rfl⟩ := List.mem_iff_getElem.1 he
      exact g3 k _ (List.getElem?_eq_getElem hk)
    simp only [elemsE, hg, Option.bind_some] at hys
    split at hys
    · injection hys with hys
      obtain ⟨y, ys', hyy⟩ := List.exists_cons_of_ne_nil hyne
      have hm : y ∈ es := List.mem_of_mem_drop (List.mem_of_mem_take (hys ▸ (hyy ▸ List.mem_cons_self)))
      rw [hall e' he', ← hall y hm]
      exact hyl y (hyy ▸ List.mem_cons_self)
    · cases hys
  -- the source
  have hsrc : ∃ news, Src w ie.size ys.length u2 news ∧ RL w Pr β ys.flatten news := by
    by_cases hy0 : ys = []
    · subst hy0
      -- an empty source
      unfold elemsE at hys
      split at hys
      · rw [hx.sc_inv]; exact ⟨[], ⟨none, 0, rfl, by simp, fun b hb => by simp at hb, fun _ => rfl⟩, .nil⟩
      · simp at hys
        subst hys
        obtain ⟨A, n, c, rfl, rfl, _⟩ := hx.sl_inv
        exact ⟨[], ⟨A, c, rfl, by simp, fun b _ k v hk => by simp at hk, fun _ => rfl⟩, .nil⟩
      · rename_i i j n c
        obtain ⟨A, cap, b, sz, rfl, _⟩ := hx.row_inv
        cases hg : getB h i with
        | none => simp [hg] at hys
        | some q =>
          obtain ⟨t', es, ex⟩ := q
          simp only [hg, Option.bind_some] at hys
          split at hys
          · rename_i hjn
            have hn0 : n = 0 := by
              have := congrArg (fun o => o.map List.length) hys
              simp at this
              omega
            subst hn0
            exact ⟨[], ⟨A, cap, rfl, by simp, fun b _ k v hk => by simp at hk, fun _ => rfl⟩, .nil⟩
          · cases hys
      · cases hys
    · refine elems_src hh hx hys hyl (fun i j n c t es ex hxr hg => ?_)
      by_cases hes : es = []
      · subst hes; intro e he; simp at he
      · exact hrowb i j n c t es ex hxr hg hes hy0
  obtain ⟨news, hsx, hrn⟩ := hsrc
  have hnl : news.length = ys.length * ie.size := by rw [hrn.1, flatten_length _ hyl]
  split at he
  · -- onto nil
    rw [hs.sc_inv]
    split at he
    · rename_i h0
      simp only [Option.some.injEq, Prod.mk.injEq] at he
      obtain ⟨rfl, rfl⟩ := he
      refine ⟨.slice none 0 0, w, β, ?_, Ext.refl _ _ _, hh, RV.mk_sc _⟩
      have := run_app_room (P := P) (w := w) (w' := w) (ty := ty) hd hd2 hie (A := none) (sLen := 0) (sCap := 0) hsx (by omega) (fun a ha => by cases ha) (fun _ => rfl)
      rw [h0] at this
      exact this
    · rename_i h0
      split at he
      · rename_i hfit
        obtain ⟨hf1, hf2⟩ := hfit
        simp only [Option.some.injEq, Prod.mk.injEq] at he
        obtain ⟨rfl, rfl⟩ := he
        have hrun := run_app_grow (P := P) (w := w) (ty := ty) hd hd2 hie hze (A := none) (sLen := 0) (sCap := 0) (olds := []) ⟨none, 0, rfl, by simp, fun b hb => by simp at hb, fun _ => rfl⟩ hsx (by omega) (by omega) (by rw [← hby]; simpa using hf1)
        simp only [Nat.zero_add, List.nil_append] at hrun
        have hhd := hh.drew
        have hrd : RL w.drew Pr β ys.flatten news := ⟨hrn.1, fun k v u h1 h2 => (hrn.2 k v u h1 h2).drew⟩
        obtain ⟨k1, k2⟩ := hhd.allocCells (t := e) (es := ys) (ex := false) (us := news) (sp := (Builtin.zeroCells ze.cells (grownCap w ys.length 0 e - ys.length)).toList) (by rw [hszT]; exact hyl) hrd (fun hx => by cases hx)
        have hgl := grown_le w ys.length 0 e
        have hzl : ze.cells.size = ie.size := by
          have h1 := (RL.zero (w := w) (Pr := Pr) (β := β) ze).1
          rw [← hzero] at h1
          simp at h1
          omega
        refine ⟨_, _, _, hrun, Ext.drew.trans k1, k2, mk_row hhd (cap := grownCap w ys.length 0 e) (beta_new hhd _) hgl hgl (heap_alloc_new w.drew _) ?_⟩
        rw [hszT]
        simp [zeroCells_len, hnl, hzl]
        rw [← Nat.add_mul]
        exact Nat.mul_le_mul_right _ (by omega)
      · cases he
  · -- onto a row
    rename_i b j n c
    obtain ⟨A, cap, bb, sz, rfl, hbb, h1, h2, h3, h4⟩ := hs.row_inv
    cases hg : getB h b with
    | none => simp [hg] at he
    | some q =>
    obtain ⟨qt, es, ex⟩ := q
    simp only [hg, Option.bind_some] at he
    split at he
    rotate_left
    · cases he
    rename_i hqe
    obtain ⟨hqt, hjn⟩ := hqe
    subst hqt
    have hib := getB_spec hg
    obtain ⟨cc, g1, g2, g3, g4, g5, g6⟩ := hh.blk b _ bb sz hib hbb
    have hsz : sz = ie.size := by omega
    subst hsz
    have hcap4 := h4 cc qt (0, 0) g1
    split at he
    · -- in its place
      rename_i hin
      obtain ⟨hi1, hi2⟩ := hin
      simp only [Option.some.injEq, Prod.mk.injEq] at he
      obtain ⟨rfl, rfl⟩ := he
      have hle : (j + n) * ie.size + ys.length * ie.size ≤ es.length * ie.size := by rw [← Nat.add_mul]; exact Nat.mul_le_mul_right _ hi2
      have hst := run_storeCells_mid (P := P) bb qt news ((j + n) * ie.size) 0 cc w g1 (by omega) (hrn.one hy1)
      simp only [Nat.add_zero] at hst
      by_cases hcap0 : cap = 0
      · -- nothing to append, and no room
        have hn0 : n = 0 := by omega
        have hy0 : ys = [] := List.eq_nil_of_length_eq_zero (by omega)
        subst hy0 hn0
        refine ⟨.slice A 0 cap, w, β, ?_, Ext.refl _ _ _, ?_, ?_⟩
        · have hnw : news = [] := List.eq_nil_of_length_eq_zero (by simpa using hnl)
          subst hnw
          have := run_app_room (P := P) (w := w) (w' := w) (ty := ty) hd hd2 hie (A := A) (sLen := 0) (sCap := cap) hsx (by simp) (fun a _ => by simp [storeCells]) (fun _ => rfl)
          simpa using this
        · have : h.set b (.cells qt (setL es (j + 0) []) ex) = h := by
            apply List.ext_getElem?
            intro k
            by_cases hk : k = b
            · subst hk; rw [List.getElem?_set_self (List.getElem?_eq_some_iff.1 hib).1, hib]; rfl
            · rw [List.getElem?_set_ne (Ne.symm hk)]
          rw [this]; exact hh
        · exact hs
      · have hA := h3 (by omega)
        have hA1 : ∀ (j' : Nat) (e' : List V), (setL es (j + n) ys)[j']? = some e' → e'.length = ie.size := by
          intro j' e' hj'
          rw [setL_get _ _ _ _ hi2] at hj'
          split at hj'
          · exact hyl e' (List.mem_of_getElem? hj')
          · exact g3 j' e' hj'
        have hA2 : ∀ (j' : Nat) (e' : List V) (k : Nat) (v : V), (setL es (j + n) ys)[j']? = some e' → e'[k]? = some v → ∃ u, (setL cc.toList ((j + n) * ie.size) news).toArray[j' * ie.size + k]? = some u ∧ RV w Pr β v u := by
          intro j' e' k v hj' hk
          have hks : k < ie.size := by rw [← hA1 j' e' hj']; exact (List.getElem?_eq_some_iff.1 hk).1
          rw [List.getElem?_toArray, setL_get _ _ _ _ (by rw [hnl]; simp; omega)]
          rw [setL_get _ _ _ _ hi2] at hj'
          split at hj'
          · rename_i hin2
            have hf := flatten_get ys (j' - (j + n)) k e' hyl hj' hks
            rw [hk] at hf
            obtain ⟨u, hu, hru⟩ := hrn.get hf
            have hul := (List.getElem?_eq_some_iff.1 hu).1
            have e1 : j' * ie.size = (j + n) * ie.size + (j' - (j + n)) * ie.size := by rw [← Nat.add_mul]; congr 1; omega
            refine ⟨u, ?_, hru⟩
            rw [if_pos (by omega), show j' * ie.size + k - (j + n) * ie.size = (j' - (j + n)) * ie.size + k from by omega]
            exact hu
          · rename_i hin2
            rw [if_neg ?_, Array.getElem?_toList]
            · exact g6 j' e' k v hj' hk
            · intro hin3
              rw [hnl] at hin3
              have hlt : j' < j + n ∨ j + n + ys.length ≤ j' := by omega
              rcases hlt with hlt | hlt
              · have := pos_lt (sz := ie.size) hlt hks
                omega
              · have : (j + n + ys.length) * ie.size ≤ j' * ie.size := Nat.mul_le_mul_right _ hlt
                rw [Nat.add_mul] at this
                omega
        obtain ⟨k1, k2⟩ := hh.setRow (c := cc) (c' := (setL cc.toList ((j + n) * ie.size) news).toArray) (es' := setL es (j + n) ys) hib hbb g1 (by simp [setL_length]) (by simp [setL_length]) hA1 hA2
        refine ⟨.slice A (n + ys.length) cap, _, β, ?_, k1, k2, ?_⟩
        · refine run_app_room (P := P) (w := w) (ty := ty) hd hd2 hie hsx (by omega) (fun a ha => ?_) (fun hA' => by rw [hA] at hA'; cases hA')
          rw [hA] at ha
          injection ha with ha
          subst ha
          rw [add_none, ← Nat.add_mul]
          exact hst
        · refine .row hbb (by omega) h2 h3 (fun cs t fz hcs => ?_)
          rw [setRow_heap w bb cc _ qt (0, 0) g1] at hcs
          injection hcs with hcs
          injection hcs with q1 q2 q3
          subst q1
          simpa [setL_length] using hcap4
    · split at he
      rotate_left
      · cases he
      rename_i hno hgrow
      obtain ⟨rfl, hfr, hf1, hf2⟩ := hgrow
      simp only [Option.some.injEq, Prod.mk.injEq] at he
      obtain ⟨rfl, rfl⟩ := he
      simp only [Nat.zero_add] at hjn hno hcap4 h3
      have hkill := hh.kill b
      have hblt : b < h.length := (List.getElem?_eq_some_iff.1 hib).1
      have hgone : (h.set b .gone)[b]? = some .gone := List.getElem?_set_self hblt
      have hfree : ∀ k s, live (h.set b .gone) k → β[k]? ≠ some (bb, s) := by
        intro k s ⟨z, hz, hzn⟩ hk
        by_cases hkb : k = b
        · subst hkb; rw [hgone] at hz; injection hz with hz; exact hzn hz.symm
        · rw [List.getElem?_set_ne (Ne.symm hkb)] at hz
          exact hkb (hh.inj k b bb s _ ⟨z, hz, hzn⟩ ⟨_, hib, by simp⟩ hk hbb)
      have hlen' : (h.set b .gone).length = h.length := by simp
      have htk : ∀ e ∈ es.take n ++ ys, e.length = ie.size := fun e' he' => by
        rcases List.mem_append.1 he' with h' | h'
        · obtain ⟨k, hk, rfl⟩ := List.mem_iff_getElem.1 (List.mem_of_mem_take h')
          exact g3 k _ (List.getElem?_eq_getElem hk)
        · exact hyl e' h'
      -- what stands ahead
      have holds : Src w ie.size n (.slice A n cap) (cc.toList.take (n * ie.size)) ∧ RL w Pr β (es.take n).flatten (cc.toList.take (n * ie.size)) := by
        have hq := elems_src hh hs (ys := (es.drop 0).take n) (sz := ie.size) (by simp only [elemsE, hg, Option.bind_some]; rw [if_pos (by omega)]) (fun y hy => htk y (List.mem_append.2 (.inl (by simpa using hy))))
          (fun i j n c t es' ex' hr hg' => by
            injection hr with q1 q2 q3 q4
            subst q1
            rw [hg] at hg'
            injection hg' with hg'
            injection hg' with q5 q6
            injection q6 with q6 q7
            subst q6
            intro e' he'
            obtain ⟨k, hk, rfl⟩ := List.mem_iff_getElem.1 he'
            exact g3 k _ (List.getElem?_eq_getElem hk))
        have hle : n * ie.size ≤ es.length * ie.size := Nat.mul_le_mul_right _ hjn
        have hnn : (cc.toList.take (n * ie.size)).length = n * ie.size := by simp; omega
        have hfl : ((es.take n).flatten).length = n * ie.size := by
          rw [flatten_length (sz := ie.size) _ (fun e' he' => htk e' (List.mem_append.2 (.inl he')))]
          simp [hjn]
        refine ⟨⟨A, cap, rfl, hnn, fun a ha p v hp => ?_, fun hA => ?_⟩, ⟨by omega, fun p v u hv hu => ?_⟩⟩
        · rcases Nat.eq_zero_or_pos cap with h0 | h0
          · have : n = 0 := by omega
            subst this
            simp at hp
          · rw [h3 h0] at ha
            injection ha with ha
            subst ha
            rw [add_none, cell_of_row w bb _ cc qt (0, 0) g1]
            rw [List.getElem?_take] at hp
            split at hp
            · rw [Array.getElem?_toList] at hp; simpa using hp
            · cases hp
        · rcases Nat.eq_zero_or_pos cap with h0 | h0
          · omega
          · rw [h3 h0] at hA; cases hA
        · have hlt : p < n * ie.size := by rw [← hfl]; exact (List.getElem?_eq_some_iff.1 hv).1
          have hsz : 0 < ie.size := by omega
          have hq : p / ie.size < n := by rw [Nat.div_lt_iff_lt_mul hsz]; exact hlt
          have hk : p % ie.size < ie.size := Nat.mod_lt _ hsz
          have hpq : p / ie.size * ie.size + p % ie.size = p := by rw [Nat.mul_comm]; exact Nat.div_add_mod p ie.size
          have hj' : p / ie.size < es.length := Nat.lt_of_lt_of_le hq hjn
          rw [← hpq, flatten_get (sz := ie.size) _ (p / ie.size) (p % ie.size) es[p / ie.size] (fun e' he' => htk e' (List.mem_append.2 (.inl he'))) (by simp [hq, List.getElem?_take, hj']) hk] at hv
          obtain ⟨u2, k1, k2⟩ := g6 (p / ie.size) _ (p % ie.size) v (List.getElem?_eq_getElem hj') hv
          rw [List.getElem?_take, if_pos hlt, Array.getElem?_toList] at hu
          rw [hpq] at k1
          rw [k1] at hu
          injection hu with hu
          subst hu
          exact k2
      obtain ⟨hsrc, hro⟩ := holds
      have htl : (es.take n ++ ys).length = n + ys.length := by simp [hjn]
      by_cases hroom : n + ys.length ≤ cap
      · -- there was room: the block goes by a new name
        have hle : n * ie.size + ys.length * ie.size ≤ cap * ie.size := by rw [← Nat.add_mul]; exact Nat.mul_le_mul_right _ hroom
        have hst := run_storeCells_mid (P := P) bb qt news (n * ie.size) 0 cc w g1 (by omega) (hrn.one hy1)
        simp only [Nat.add_zero] at hst
        obtain ⟨k1, k2⟩ := hkill.writeGone (c' := (setL cc.toList (n * ie.size) news).toArray) hbb hgone hfree g1 (by simp [setL_length])
        have hnew : (w.setRow bb (setL cc.toList (n * ie.size) news).toArray).heap[bb]? = some (.cells (setL cc.toList (n * ie.size) news).toArray qt (0, 0)) := setRow_heap w bb cc _ qt (0, 0) g1
        obtain ⟨q1, q2⟩ := k2.rename (es := es.take n ++ ys) hbb hgone hfree hnew g2 (fun j' e' hj' => htk e' (List.mem_of_getElem? hj')) (by rw [htl]; simp [setL_length]; rw [Nat.add_mul]; omega) (fun j' e' k v hj' hk => by
          have hks : k < ie.size := by rw [← htk e' (List.mem_of_getElem? hj')]; exact (List.getElem?_eq_some_iff.1 hk).1
          rw [List.getElem?_toArray, setL_get _ _ _ _ (by rw [hnl]; simp; omega)]
          rw [List.getElem?_append] at hj'
          split at hj'
          · rename_i hlt
            simp only [List.length_take] at hlt
            have hj2 : es[j']? = some e' := by rw [List.getElem?_take] at hj'; split at hj'; (· exact hj'); (· cases hj')
            have := pos_lt (sz := ie.size) (show j' < n by omega) hks
            rw [if_neg (by omega), Array.getElem?_toList]
            obtain ⟨u, z1, z2⟩ := g6 j' e' k v hj2 hk
            exact ⟨u, z1, k1.rv hkill z2⟩
          · rename_i hlt
            simp only [List.length_take, Nat.min_eq_left hjn] at hlt hj'
            have hf := flatten_get ys (j' - n) k e' hyl hj' hks
            rw [hk] at hf
            obtain ⟨u, hu, hru⟩ := hrn.get hf
            have hul := (List.getElem?_eq_some_iff.1 hu).1
            have e1 : j' * ie.size = n * ie.size + (j' - n) * ie.size := by rw [← Nat.add_mul]; congr 1; omega
            refine ⟨u, ?_, k1.rv hkill hru⟩
            rw [if_pos (by omega), show j' * ie.size + k - n * ie.size = (j' - n) * ie.size + k from by omega]
            exact hu)
        refine ⟨.slice A (n + ys.length) cap, _, _, ?_, k1.trans q1, q2, ?_⟩
        · refine run_app_room (P := P) (w := w) (ty := ty) hd hd2 hie hsx hroom (fun a ha => ?_) (fun hA' => ?_)
          · rcases Nat.eq_zero_or_pos cap with h0 | h0
            · have hy0 : ys = [] := List.eq_nil_of_length_eq_zero (by omega)
              have hn0 : n = 0 := by omega
              have hnw : news = [] := List.eq_nil_of_length_eq_zero (by rw [hnl, hy0]; simp)
              rw [hnw] at hst ⊢
              rw [hn0] at hst ⊢
              simp only [storeCells, Sem.run_pure] at hst ⊢
              injection hst with _ hst
              rw [← hst]
            · rw [h3 h0] at ha
              injection ha with ha
              subst ha
              rw [add_none]
              simpa using hst
          · rcases Nat.eq_zero_or_pos cap with h0 | h0
            · have hy0 : ys = [] := List.eq_nil_of_length_eq_zero (by omega)
              have hn0 : n = 0 := by omega
              have hnw : news = [] := List.eq_nil_of_length_eq_zero (by rw [hnl, hy0]; simp)
              rw [hnw] at hst ⊢
              rw [hn0] at hst ⊢
              simp only [storeCells, Sem.run_pure] at hst
              injection hst with _ hst
              rw [← hst]
            · rw [h3 h0] at hA'; cases hA'
        · have hb' : (β ++ [(bb, ie.size)])[h.length]? = some (bb, ie.size) := by rw [← hh.len]; simp
          refine .row hb' hroom (by omega) (fun h0 => by rw [h3 h0]) (fun cs t fz hcs => ?_)
          rw [hnew] at hcs
          injection hcs with hcs
          injection hcs with z1 z2 z3
          subst z1
          simpa [setL_length] using hcap4
      · -- no room: a new block
        have hrun := run_app_grow (P := P) (w := w) (ty := ty) hd hd2 hie hze hsrc hsx (by omega) hf2 (by rw [← hby]; exact hf1)
        have hhd := hkill.drew
        have hrd : RL w.drew Pr β (es.take n ++ ys).flatten (cc.toList.take (n * ie.size) ++ news) := by
          rw [List.flatten_append]
          have := hro.append hrn
          exact ⟨this.1, fun k v u z1 z2 => (this.2 k v u z1 z2).drew⟩
        obtain ⟨k1, k2⟩ := hhd.allocCells (t := qt) (es := es.take n ++ ys) (ex := false) (us := cc.toList.take (n * ie.size) ++ news) (sp := (Builtin.zeroCells ze.cells (grownCap w (n + ys.length) cap qt - (n + ys.length))).toList) (by rw [hszT]; exact htk) hrd (fun hx => by cases hx)
        have hgl := grown_le w (n + ys.length) cap qt
        have hzl : ze.cells.size = ie.size := by
          have h1 := (RL.zero (w := w) (Pr := Pr) (β := β) ze).1
          rw [← hzero] at h1
          simp at h1
          omega
        have hmk := mk_row (w' := w.drew.alloc (.cells ((cc.toList.take (n * ie.size) ++ news) ++ (Builtin.zeroCells ze.cells (grownCap w (n + ys.length) cap qt - (n + ys.length))).toList).toArray qt)) (n := n + ys.length) (c := n + ys.length) (cap := grownCap w (n + ys.length) cap qt) hhd (beta_new hhd (sz := szT P qt) w.heap.size) hgl hgl (heap_alloc_new w.drew _) (by
          have := hro.1
          have hfl : ((es.take n).flatten).length = n * ie.size := by
            rw [flatten_length (sz := ie.size) _ (fun e' he' => htk e' (List.mem_append.2 (.inl he')))]
            simp [hjn]
          rw [hszT]
          simp only [List.size_toArray, List.length_append, Array.length_toList, zeroCells_len, hnl, hzl]
          rw [this, hfl, ← Nat.add_mul, ← Nat.add_mul]
          exact Nat.mul_le_mul_right _ (by omega))
        rw [hlen'] at hmk
        exact ⟨_, _, _, hrun, (Ext.drew.trans k1 : _), k2, hmk⟩
  · cases he
end
end Go.Ab

set_option linter.unusedVariables false
set_option linter.unusedSimpArgs false
namespace Go.Ab

section
variable {P : Program} {w : World} {Pr : Nat → Prop} {β : Bt} {h : H}

theorem tyI_zv {t : TypeId} {ti : TI} (h : tyI P t = some ti) : ∃ i z, P.info? t = some i ∧ i.zero = some z ∧ ti.zv = ofVal z := by
  unfold tyI at h
  split at h
  · rename_i i d hi hd
    split at h
    · rename_i z hz
      split at h
      · cases h
      · injection h with h
        subst h
        exact ⟨i, z, hi, hz, rfl⟩
    · cases h
  · cases h

theorem sameNow_td (d : TypeDesc) (k x : Value) : Instr.sameNow d k x = keyS (tdOf P d) k x := by cases d <;> cases k <;> cases x <;> rfl

/-- The entries of a map, one by one. -/
def EntsO (w : World) (Pr : Nat → Prop) (β : Bt) (es : List (Value × V × Nat)) (l : List MapEntry) : Prop :=
  l.length = es.length ∧ ∀ (k : Nat) (e : Value × V × Nat), es[k]? = some e → ∃ u bo, l[k]? = some ⟨e.1, u, bo⟩ ∧ (e.2.2 = 0 ∨ e.2.2 = bo + 1) ∧ RV w Pr β e.2.1 u

/-- The entries of a map, as they are told: in whatever order. -/
def Ents (w : World) (Pr : Nat → Prop) (β : Bt) (es : List (Value × V × Nat)) (L : List MapEntry) (c : Nat) : Prop :=
  ∃ l, L.Perm l ∧ EntsO w Pr β es l ∧ (∀ x ∈ l, x.born < c) ∧ (l.map (·.born)).Nodup

theorem EntsO.cons {e : Value × V × Nat} {es : List (Value × V × Nat)} {L : List MapEntry} (hl : EntsO w Pr β (e :: es) L) : ∃ u bo L', L = ⟨e.1, u, bo⟩ :: L' ∧ RV w Pr β e.2.1 u ∧ EntsO w Pr β es L' := by
  obtain ⟨h1, h2⟩ := hl
  cases L with
  | nil => simp at h1
  | cons x L' =>
    obtain ⟨u, bo, hu, _, hr⟩ := h2 0 e rfl
    simp at hu
    subst hu
    exact ⟨u, bo, L', rfl, hr, by simpa using h1, fun k e' hk => h2 (k + 1) e' hk⟩

theorem EntsO.all {p : Value → Bool} {es : List (Value × V × Nat)} {l : List MapEntry} (hl : EntsO w Pr β es l) : es.all (fun e => p e.1) = l.all fun x => p x.key := by
  induction es generalizing l with
  | nil =>
    have : l = [] := List.eq_nil_of_length_eq_zero hl.1
    subst this
    rfl
  | cons e es ih =>
    obtain ⟨u, bo, l', rfl, _, hl'⟩ := hl.cons
    simp [ih hl']

theorem EntsO.countP {p : Value → Bool} {es : List (Value × V × Nat)} {l : List MapEntry} (hl : EntsO w Pr β es l) : es.countP (fun e => p e.1) = l.countP fun x => p x.key := by
  induction es generalizing l with
  | nil =>
    have : l = [] := List.eq_nil_of_length_eq_zero hl.1
    subst this
    rfl
  | cons e es ih =>
    obtain ⟨u, bo, l', rfl, _, hl'⟩ := hl.cons
    simp [List.countP_cons, ih hl']

/-- What the evaluator finds. -/
theorem findE_spec {d : TD} {k : Value} : ∀ (es : List (Value × V × Nat)) (i : Nat) (r : Option (Nat × V)), findE d k es i = some r →
    (r = none ∧ ∀ e ∈ es, keyS d k e.1 = some false) ∨ ∃ j e, r = some (j, e.2.1) ∧ i ≤ j ∧ es[j - i]? = some e ∧ keyS d k e.1 = some true := by
  intro es
  induction es with
  | nil => intro i r he; simp [findE] at he; exact .inl ⟨he.symm, by simp⟩
  | cons e es ih =>
    intro i r he
    unfold findE at he
    split at he
    · rename_i hk
      injection he with he
      subst he
      exact .inr ⟨i, e, rfl, Nat.le_refl _, by simp, hk⟩
    · rename_i hk
      rcases ih (i + 1) r he with ⟨h1, h2⟩ | ⟨j, e', h1, h2, h3, h4⟩
      · exact .inl ⟨h1, fun x hx => by
          rcases List.mem_cons.1 hx with rfl | hx
          · exact hk
          · exact h2 x hx⟩
      · have hj : j - i = (j - (i + 1)) + 1 := by omega
        exact .inr ⟨j, e', h1, by omega, by rw [hj]; simpa using h3, h4⟩
    · cases he

/-- What the machine finds. -/
theorem findNow_spec {d : TypeDesc} {k : Value} : ∀ (L : List MapEntry) (i : Nat), (∀ x ∈ L, (Instr.sameNow d k x.key).isSome = true) →
    (Instr.findNow d k L i = some none ∧ ∀ x ∈ L, Instr.sameNow d k x.key = some false) ∨ ∃ j x, Instr.findNow d k L i = some (some (j, x.val)) ∧ i ≤ j ∧ L[j - i]? = some x ∧ Instr.sameNow d k x.key = some true := by
  intro L
  induction L with
  | nil => intro i _; exact .inl ⟨rfl, by simp⟩
  | cons e es ih =>
    intro i ha
    unfold Instr.findNow
    cases hk : Instr.sameNow d k e.key with
    | none => have := ha e (by simp); rw [hk] at this; cases this
    | some b =>
      cases b with
      | true => exact .inr ⟨i, e, rfl, Nat.le_refl _, by simp, hk⟩
      | false =>
        rcases ih (i + 1) (fun x hx => ha x (by simp [hx])) with ⟨h1, h2⟩ | ⟨j, e', h1, h2, h3, h4⟩
        · exact .inl ⟨h1, fun x hx => by
            rcases List.mem_cons.1 hx with rfl | hx
            · exact hk
            · exact h2 x hx⟩
        · have hj : j - i = (j - (i + 1)) + 1 := by omega
          exact .inr ⟨j, e', h1, by omega, by rw [hj]; simpa using h3, h4⟩

theorem count_one {α : Type} {p : α → Bool} : ∀ {l : List α} {i j : Nat} {x y : α}, l.countP p ≤ 1 → l[i]? = some x → l[j]? = some y → p x = true → p y = true → i = j
  | [], i, j, x, y, _, h, _, _, _ => by simp at h
  | a :: l, i, j, x, y, hc, hi, hj, hx, hy => by
    rw [List.countP_cons] at hc
    have pos : ∀ {k : Nat} {z : α}, l[k]? = some z → p z = true → 0 < l.countP p := fun {k z} hk hz => List.countP_pos_iff.2 ⟨z, List.mem_of_getElem? hk, hz⟩
    cases i with
    | zero =>
      cases j with
      | zero => rfl
      | succ j =>
        simp at hi
        subst hi
        have := pos (by simpa using hj) hy
        rw [if_pos hx] at hc
        omega
    | succ i =>
      cases j with
      | zero =>
        simp at hj
        subst hj
        have := pos (by simpa using hi) hx
        rw [if_pos hy] at hc
        omega
      | succ j =>
        have h0 : l.countP p ≤ 1 := by omega
        have h1 : l[i]? = some x := by simpa using hi
        have h2 : l[j]? = some y := by simpa using hj
        have := count_one h0 h1 h2 hx hy
        omega

theorem findK_run {d : TypeDesc} {kt : TypeId} {k : Value} (hd : P.underlying kt = some d) {es : List (Value × V × Nat)} {L : List MapEntry} {c : Nat} {r : Option (Nat × V)} (hl : Ents w Pr β es L c)
    (he : findK (tdOf P d) k es = some r) : (∀ b n w, (Instr.checkKey b (n + 1) kt k).run P w = .ok () w) ∧
      ((r = none ∧ ∀ w, (Instr.findKey kt k L).run P w = .ok none w) ∨
       ∃ j j' e l u bo, r = some (j, e.2.1) ∧ (∀ w, (Instr.findKey kt k L).run P w = .ok (some (j', u)) w) ∧ RV w Pr β e.2.1 u ∧ es[j]? = some e ∧ keyS (tdOf P d) k e.1 = some true ∧
         L.Perm l ∧ EntsO w Pr β es l ∧ (∀ x ∈ l, x.born < c) ∧ (l.map (·.born)).Nodup ∧ l[j]? = some ⟨e.1, u, bo⟩ ∧ L[j']? = some ⟨e.1, u, bo⟩ ∧ (e.2.2 = 0 ∨ e.2.2 = bo + 1)) := by
  unfold findK at he
  split at he
  · rename_i hk
    obtain ⟨hk, hall, hone⟩ := hk
    refine ⟨fun b n w => ?_, ?_⟩
    · cases d <;> cases k <;> simp [keyS, tdOf] at hk <;> simp [Instr.checkKey, run_underlying hd]
    · obtain ⟨l, hp, ho, hb, hn⟩ := hl
      have hall := (EntsO.all (p := fun x => (keyS (tdOf P d) k x).isSome) ho).symm.trans hall
      have hone : l.countP (fun x => keyS (tdOf P d) k x.key == some true) ≤ 1 := by
        have := EntsO.countP (p := fun x => keyS (tdOf P d) k x == some true) ho
        omega
      have hL : ∀ x ∈ L, (Instr.sameNow d k x.key).isSome = true := fun x hx => by
        rw [sameNow_td (P := P)]
        exact List.all_eq_true.1 hall x (hp.mem_iff.1 hx)
      rcases findE_spec es 0 r he with ⟨rfl, hno⟩ | ⟨j, e, rfl, _, hj, hke⟩
      · left
        refine ⟨rfl, ?_⟩
        rcases findNow_spec L 0 hL with ⟨h1, _⟩ | ⟨j', x, h1, _, h3, h4⟩
        · intro w; simp [Instr.findKey, run_underlying hd, h1]
        · exfalso
          have hx := hp.mem_iff.1 (List.mem_of_getElem? h3)
          have h0 : es.all (fun e => keyS (tdOf P d) k e.1 == some false) = true := List.all_eq_true.2 fun e he => by simp [hno e he]
          have h0 := (EntsO.all (p := fun x => keyS (tdOf P d) k x == some false) ho).symm.trans h0
          have := List.all_eq_true.1 h0 x hx
          rw [sameNow_td (P := P)] at h4
          rw [h4] at this
          cases this
      · right
        obtain ⟨u, bo, hu, hst, hr⟩ := ho.2 j e (by simpa using hj)
        rcases findNow_spec L 0 hL with ⟨_, h2⟩ | ⟨j', x, h1, _, h3, h4⟩
        · have := h2 ⟨e.1, u, bo⟩ (hp.mem_iff.2 (List.mem_of_getElem? hu))
          rw [sameNow_td (P := P)] at this
          rw [hke] at this
          cases this
        · obtain ⟨j2, hj2⟩ := List.mem_iff_getElem?.1 (hp.mem_iff.1 (List.mem_of_getElem? h3))
          rw [sameNow_td (P := P)] at h4
          have := count_one hone hj2 hu (by simp [h4]) (by simp [hke])
          subst this
          rw [hu] at hj2
          injection hj2 with hj2
          subst hj2
          exact ⟨j2, j', e, l, u, bo, rfl, fun w => by simp [Instr.findKey, run_underlying hd, h1], hr, by simpa using hj, hke, hp, ho, hb, hn, hu, by simpa using h3, hst⟩
  · cases he

theorem stays_run {d : TD} {k x : Value} (hk : keyS d k x = some true) (w : World) : (Instr.keyThatStays x k).run P w = .ok k w := by
  have : Instr.sameBits 10000 x k = true := by
    cases d <;> cases k <;> cases x <;> simp [keyS] at hk <;> simp [Instr.sameBits, hk]
    rename_i a b
    have h1 : a.data = b.data := eq_of_beq (α := Array UInt8) hk
    have h2 : a = b := by cases a; cases b; simp at h1; rw [h1]
    subst h2
    exact hk
  simp [Instr.keyThatStays, this]

theorem map_blk0 (hh : Hp P w Pr β h) {i b sz c : Nat} {es : List (Value × V × Nat)} (hi : h[i]? = some (.map es c)) (hb : β[i]? = some (b, sz)) :
    ∃ (L : Array MapEntry), w.heap[b]? = some (.map L c) ∧ Ents w Pr β es L.toList c := by
  obtain ⟨L, l, h1, h2, h3, h4, h5, h6⟩ := hh.blk i _ b sz hi hb
  exact ⟨L, h1, l, h2, ⟨h3, h6⟩, h4, h5⟩

theorem mapOf_run (hh : Hp P w Pr β h) {m : V} {u : Value} {es : List (Value × V × Nat)} (hm : RV w Pr β m u) (he : mapOf h m = some es) :
    (u = .map none ∧ es = []) ∨ ∃ b c es', u = .map (some b) ∧ w.heap[b]? = some (.map es' c) ∧ Ents w Pr β es es'.toList c := by
  unfold mapOf at he
  split at he
  · injection he with he
    exact .inl ⟨hm.sc_inv, he.symm⟩
  · rename_i i
    split at he
    · rename_i es0 c hi
      injection he with he
      subst he
      cases hm with
      | mp hb =>
        rename_i b sz
        obtain ⟨L, h1, h2⟩ := map_blk0 hh hi hb
        exact .inr ⟨b, c, L, rfl, h1, h2⟩
    · cases he
  · cases he

theorem run_getMap {r : Nat} {es : Array MapEntry} {clock : Nat} (hb : w.heap[r]? = some (.map es clock)) : (getObj r).run P w = .ok (.map es clock) w := by simp [getObj, Sem.run, hb]
theorem run_setMap {r : Nat} {es : Array MapEntry} {clock : Nat} (o : Obj) (hb : w.heap[r]? = some (.map es clock)) : (setObj r o).run P w = .ok () { w with heap := w.heap.setIfInBounds r o } := by simp [setObj, Sem.run, hb]

theorem run_zero {t : TypeId} {i : TypeInfo} {z : Value} (hi : P.info? t = some i) (hz : i.zero = some z) (w : World) : (zeroValue t).run P w = .ok z w := by simp [zeroValue, typeInfo, hi, hz]

theorem lkpE_sound (hh : Hp P w Pr β h) {t : TypeId} {m k v : V} {ok : Bool} {u1 u2 : Value} (hm : RV w Pr β m u1) (hk : RV w Pr β k u2) (he : lkpE P t m k ok h = some v) :
    ∃ r, (Instr.lookup t u1 u2 ok).run P w = .ok r w ∧ RV w Pr β v r := by
  unfold lkpE at he
  cases hti : tyI P t with
  | none => simp [hti] at he
  | some ti =>
    obtain ⟨inf, d, z, hinf, hd, _, htd, _⟩ := tyI_spec hti
    simp only [hti, Option.bind_some] at he
    split at he
    · rename_i kt et kv heq
      rw [htd] at heq
      rw [td_map heq] at hd
      cases htk : tyI P kt with
      | none => simp [htk] at he
      | some tk =>
        obtain ⟨_, dk, _, _, hdk, _, htdk, _⟩ := tyI_spec htk
        cases hte : tyI P et with
        | none => simp [htk, hte] at he
        | some te =>
          obtain ⟨ie, ze, hie, hze, hzv⟩ := tyI_zv hte
          simp only [htk, hte, Option.bind_some] at he
          cases hmo : mapOf h m with
          | none => simp [hmo] at he
          | some es =>
            simp only [hmo, Option.bind_some] at he
            cases hf : findK tk.d kv es with
            | none => simp [hf] at he
            | some r =>
              simp only [hf, Option.map_some] at he
              injection he with he
              rw [htdk] at hf
              rw [hk.sc_inv]
              have fin : ∀ (L : List MapEntry) (c : Nat), Ents w Pr β es L c → ∃ r', (∀ b n w, (Instr.checkKey b (n + 1) kt kv).run P w = .ok () w) ∧ (∀ w, (Instr.findKey kt kv L).run P w = .ok r' w) ∧ ∃ (x : V × Value) (ob : Bool), RV w Pr β x.1 x.2 ∧ (v = if ok then .tup [x.1, bv ob] else x.1) ∧
                  ((∃ j, r' = some (j, x.2) ∧ ob = true) ∨ (r' = none ∧ x.2 = ze ∧ ob = false)) := fun L c hL => by
                obtain ⟨h1, h2⟩ := findK_run hdk hL hf
                rcases h2 with ⟨rfl, h3⟩ | ⟨j, j', e, l, u, bo, rfl, h3, h4, _⟩
                · exact ⟨none, h1, h3, (zeroE te, ze), false, by rw [zeroE, hzv]; exact .ofVal _, by rw [← he], .inr ⟨rfl, rfl, rfl⟩⟩
                · exact ⟨some (j', u), h1, h3, (e.2.1, u), true, h4, by rw [← he], .inl ⟨j', rfl, rfl⟩⟩
              have done : ∀ (x : V × Value) (ob : Bool), RV w Pr β x.1 x.2 → v = (if ok then .tup [x.1, bv ob] else x.1) → RV w Pr β v (if ok then .tuple #[x.2, .bool ob] else x.2) := fun x ob hx hv => by
                rw [hv]
                cases ok with
                | false => simpa using hx
                | true =>
                  have := RV.mk_tup (RL.cons hx (RL.cons (RV.mk_sc (w := w) (Pr := Pr) (β := β) (.bool ob)) .nil))
                  simpa using this
              rcases mapOf_run hh hm hmo with ⟨rfl, rfl⟩ | ⟨b, c, es', rfl, hw, hL⟩
              · obtain ⟨r', h1, h2, x, ob, hx, hv, h3⟩ := fin [] 0 ⟨[], .refl _, ⟨rfl, fun k e hk => by simp at hk⟩, by simp, by simp⟩
                refine ⟨_, ?_, done x ob hx hv⟩
                rcases h3 with ⟨j, rfl, rfl⟩ | ⟨rfl, h3, rfl⟩
                · simp [Instr.lookup, run_underlying hd, h1, h2]
                · simp [Instr.lookup, run_underlying hd, h1, h2, run_zero hie hze, h3]
              · obtain ⟨r', h1, h2, x, ob, hx, hv, h3⟩ := fin es'.toList c hL
                refine ⟨_, ?_, done x ob hx hv⟩
                rcases h3 with ⟨j, rfl, rfl⟩ | ⟨rfl, h3, rfl⟩
                · simp [Instr.lookup, run_underlying hd, run_getMap hw, h1, h2]
                · simp [Instr.lookup, run_underlying hd, run_getMap hw, h1, h2, run_zero hie hze, h3]
    · cases he

/-- A map written. -/
theorem Hp.setMap (hh : Hp P w Pr β h) {i b sz c c' c0 : Nat} {es es1 : List (Value × V × Nat)} {L L1 : Array MapEntry} (hi : h[i]? = some (.map es c0)) (hb : β[i]? = some (b, sz)) (hw : w.heap[b]? = some (.map L c))
    (hl : Ents w Pr β es1 L1.toList c') :
    Ext w Pr β { w with heap := w.heap.setIfInBounds b (.map L1 c') } Pr β ∧ Hp P { w with heap := w.heap.setIfInBounds b (.map L1 c') } Pr β (h.set i (.map es1 c')) := by
  have hlt : b < w.heap.size := hh.lt i b sz hb
  have hk : ∀ k, k ≠ b → (w.heap.setIfInBounds b (.map L1 c'))[k]? = w.heap[k]? := fun k hk => Array.getElem?_setIfInBounds_ne (Ne.symm hk)
  have hs : (w.heap.setIfInBounds b (.map L1 c'))[b]? = some (.map L1 c') := by simp [Array.getElem?_setIfInBounds, hlt]
  have e : Ext w Pr β { w with heap := w.heap.setIfInBounds b (.map L1 c') } Pr β := Ext.write hb (by simp) rfl rfl rfl hk (fun cs' t fz hcs => by
    rw [hs] at hcs
    injection hcs with hcs
    cases hcs)
  refine ⟨e, hh.write hb hi (by simp) e (by simp) hk ?_⟩
  obtain ⟨l, h1, ⟨h2, h3⟩, h4, h5⟩ := hl
  exact ⟨L1, l, hs, h1, h2, h4, h5, fun k e' hk => (h3 k e' hk).imp fun u ⟨bo, q, q', r⟩ => ⟨bo, q, q', e.rv hh r⟩⟩

theorem perm_set {α : Type} {L l : List α} {i j : Nat} {x y : α} (hp : L.Perm l) (hi : L[i]? = some x) (hj : l[j]? = some x) : (L.set i y).Perm (l.set j y) := by
  have h1 := List.getElem?_eq_some_iff.1 hi
  have h2 := List.getElem?_eq_some_iff.1 hj
  obtain ⟨hi', rfl⟩ := h1
  obtain ⟨hj', he⟩ := h2
  have p1 : ∀ {l : List α} {i : Nat} (h : i < l.length) (y : α), (l.set i y).Perm (y :: l.eraseIdx i) := fun {l i} h y => by
    induction l generalizing i with
    | nil => simp at h
    | cons a l ih =>
      cases i with
      | zero => exact .refl _
      | succ i => exact ((ih (by simpa using h)).cons a).trans (.swap ..)
  have p2 : ∀ {l : List α} {i : Nat} (h : i < l.length), l.Perm (l[i] :: l.eraseIdx i) := fun {l i} h => by
    have := p1 h l[i]
    rwa [List.set_getElem_self] at this
  have p3 : (L.eraseIdx i).Perm (l.eraseIdx j) := by
    have := ((p2 hi').symm.trans hp).trans (p2 hj')
    rw [he] at this
    exact this.cons_inv
  exact ((p1 hi' y).trans (p3.cons y)).trans (p1 hj' y).symm

theorem perm_erase {α : Type} {L l : List α} {i j : Nat} {x : α} (hp : L.Perm l) (hi : L[i]? = some x) (hj : l[j]? = some x) : (L.eraseIdx i).Perm (l.eraseIdx j) := by
  obtain ⟨hi', rfl⟩ := List.getElem?_eq_some_iff.1 hi
  obtain ⟨hj', he⟩ := List.getElem?_eq_some_iff.1 hj
  have p2 : ∀ {l : List α} {i : Nat} (h : i < l.length), l.Perm (l[i] :: l.eraseIdx i) := fun {l i} h => by
    induction l generalizing i with
    | nil => simp at h
    | cons a l ih =>
      cases i with
      | zero => exact .refl _
      | succ i => exact ((ih (by simpa using h)).cons a).trans (.swap ..)
  have := ((p2 hi').symm.trans hp).trans (p2 hj')
  rw [he] at this
  exact this.cons_inv

theorem modify_set {α : Type} {l : List α} {i : Nat} {x : α} (f : α → α) (h : l[i]? = some x) : l.modify i f = l.set i (f x) := by
  apply List.ext_getElem?
  intro k
  rw [List.getElem?_modify, List.getElem?_set]
  by_cases hk : i = k
  · subst hk
    obtain ⟨hlt, he⟩ := List.getElem?_eq_some_iff.1 h
    simp [hlt, he]
  · simp [hk]

theorem EntsO.set {es : List (Value × V × Nat)} {l : List MapEntry} (hl : EntsO w Pr β es l) {i : Nat} {k : Value} {v : V} {n : Nat} {u : Value} {bo : Nat} (hn : n = 0 ∨ n = bo + 1) (hv : RV w Pr β v u) : EntsO w Pr β (es.set i (k, v, n)) (l.set i ⟨k, u, bo⟩) := by
  refine ⟨by simp [hl.1], fun j e hj => ?_⟩
  rw [List.getElem?_set] at hj ⊢
  by_cases h0 : i = j
  · subst h0
    rw [hl.1]
    rw [if_pos rfl] at hj ⊢
    split at hj
    · rename_i h1
      injection hj with hj
      subst hj
      exact ⟨u, bo, by rw [if_pos h1], hn, hv⟩
    · cases hj
  · rw [if_neg h0] at hj ⊢
    exact hl.2 j e hj

theorem EntsO.push {es : List (Value × V × Nat)} {L : List MapEntry} (hl : EntsO w Pr β es L) {k : Value} {v : V} {u : Value} {c c' : Nat} (hn : c = 0 ∨ c = c' + 1) (hv : RV w Pr β v u) : EntsO w Pr β (es ++ [(k, v, c)]) (L ++ [⟨k, u, c'⟩]) := by
  refine ⟨by simp [hl.1], fun j e hj => ?_⟩
  rcases getElem?_append_one hj with h1 | ⟨h1, rfl⟩
  · obtain ⟨u', bo, h2, h3⟩ := hl.2 j e h1
    exact ⟨u', bo, by rw [List.getElem?_append_left (List.getElem?_eq_some_iff.1 h2).1]; exact h2, h3⟩
  · exact ⟨u, c', by rw [h1, ← hl.1]; simp, hn, hv⟩

theorem EntsO.erase {es : List (Value × V × Nat)} {L : List MapEntry} (hl : EntsO w Pr β es L) (i : Nat) : EntsO w Pr β (es.eraseIdx i) (L.eraseIdx i) := by
  refine ⟨by simp [List.length_eraseIdx, hl.1], fun k e hk => ?_⟩
  rw [List.getElem?_eraseIdx] at hk ⊢
  split at hk
  · rename_i h1
    rw [if_pos h1]
    exact hl.2 k e hk
  · rename_i h1
    rw [if_neg h1]
    exact hl.2 _ e hk

theorem map_born_set {l : List MapEntry} {j : Nat} {k u k' u' : Value} {bo : Nat} (h : l[j]? = some ⟨k, u, bo⟩) : (l.set j ⟨k', u', bo⟩).map (·.born) = l.map (·.born) := by
  apply List.ext_getElem?
  intro n
  rw [List.getElem?_map, List.getElem?_map, List.getElem?_set]
  by_cases h0 : j = n
  · subst h0
    obtain ⟨hlt, he⟩ := List.getElem?_eq_some_iff.1 h
    simp [hlt, he]
  · rw [if_neg h0]

theorem Ents.push {es : List (Value × V × Nat)} {L : List MapEntry} {c : Nat} (hl : Ents w Pr β es L c) {k : Value} {v : V} {u : Value} (hv : RV w Pr β v u) : Ents w Pr β (es ++ [(k, v, c + 1)]) (L ++ [⟨k, u, c⟩]) (c + 1) := by
  obtain ⟨l, h1, h2, h3, h4⟩ := hl
  refine ⟨l ++ [⟨k, u, c⟩], h1.append_right _, h2.push (.inr rfl) hv, fun x hx => ?_, ?_⟩
  · rcases List.mem_append.1 hx with hx | hx
    · have := h3 x hx; omega
    · simp at hx; subst hx; exact Nat.lt_succ_self _
  · rw [List.map_append, List.nodup_append]
    refine ⟨h4, by simp, fun a ha b hb => ?_⟩
    simp at hb
    subst hb
    obtain ⟨x, hx, rfl⟩ := List.mem_map.1 ha
    have := h3 x hx
    omega

/-- The block of a map. -/
theorem map_blk (hh : Hp P w Pr β h) {i c : Nat} {es : List (Value × V × Nat)} {u : Value} (hm : RV w Pr β (.mp i) u) (hi : h[i]? = some (.map es c)) :
    ∃ b sz L, u = .map (some b) ∧ β[i]? = some (b, sz) ∧ w.heap[b]? = some (.map L c) ∧ Ents w Pr β es L.toList c := by
  cases hm with
  | mp hb =>
    rename_i b sz
    obtain ⟨L, h1, h2⟩ := map_blk0 hh hi hb
    exact ⟨b, sz, L, rfl, hb, h1, h2⟩

theorem updE_sound (hh : Hp P w Pr β h) {t : TypeId} {m k x : V} {u1 u2 u3 : Value} {h' : H} (hm : RV w Pr β m u1) (hk : RV w Pr β k u2) (hx : RV w Pr β x u3) (he : updE P t m k x h = some h') :
    ∃ w', (Instr.mapUpdate t u1 u2 u3).run P w = .ok () w' ∧ Ext w Pr β w' Pr β ∧ Hp P w' Pr β h' := by
  unfold updE at he
  cases hti : tyI P t with
  | none => simp [hti] at he
  | some ti =>
    obtain ⟨inf, d, z, hinf, hd, _, htd, _⟩ := tyI_spec hti
    simp only [hti, Option.bind_some] at he
    split at he
    · rename_i kt et i kv heq
      rw [htd] at heq
      rw [td_map heq] at hd
      cases htk : tyI P kt with
      | none => simp [htk] at he
      | some tk =>
        obtain ⟨_, dk, _, _, hdk, _, htdk, _⟩ := tyI_spec htk
        simp only [htk, Option.bind_some] at he
        split at he
        · rename_i es c hi
          obtain ⟨b, sz, L, rfl, hb, hw, hL⟩ := map_blk hh hm hi
          cases hf : findK tk.d kv es with
          | none => simp [hf] at he
          | some r =>
            simp only [hf, Option.map_some] at he
            injection he with he
            rw [htdk] at hf
            rw [hk.sc_inv]
            obtain ⟨h1, h2⟩ := findK_run hdk hL hf
            rcases h2 with ⟨rfl, h3⟩ | ⟨j, j', e, l, u, bo, rfl, h3, h4, h5, h6, h7, h8, h9, h10, h11, h12, h13⟩
            · subst he
              refine ⟨_, ?_, hh.setMap (L1 := L.push ⟨kv, u3, c⟩) (c' := c + 1) hi hb hw (by simpa using hL.push hx)⟩
              simp [Instr.mapUpdate, run_underlying hd, run_getMap hw, h1, h3, run_setMap _ hw]
            · subst he
              have hjL : L[j']? = some ⟨e.1, u, bo⟩ := by simpa using h12
              refine ⟨_, ?_, hh.setMap (L1 := L.modify j' fun e => { e with key := kv, val := u3 }) (c' := c) hi hb hw ?_⟩
              · simp [Instr.mapUpdate, run_underlying hd, run_getMap hw, h1, h3, hjL, stays_run h6, run_setMap _ hw]
              · rw [Array.toList_modify, modify_set _ h12, modify_set _ h5]
                refine ⟨l.set j ⟨kv, u3, bo⟩, perm_set h7 h12 h11, h8.set h13 hx, fun x hx => ?_, by rw [map_born_set h11]; exact h10⟩
                have hb1 : x.born ∈ l.map (·.born) := by rw [← map_born_set (k' := kv) (u' := u3) h11]; exact List.mem_map.2 ⟨x, hx, rfl⟩
                obtain ⟨y, hy, hyx⟩ := List.mem_map.1 hb1
                have := h9 y hy
                omega
        · cases he
    · cases he

theorem delE_sound (hh : Hp P w Pr β h) {t t2 ty : TypeId} {m k : V} {u1 u2 : Value} {h' : H} (hm : RV w Pr β m u1) (hk : RV w Pr β k u2) (he : delE P t m k h = some h') (ats : Array TypeId) (hats : ats[0]? = some t) (as : Array Value) (h0 : as[0]? = some u1) (h01 : as[1]? = some u2) :
    ∃ w', (Builtin.delete_ ats ty as).run P w = .ok (.tuple #[]) w' ∧ Ext w Pr β w' Pr β ∧ Hp P w' Pr β h' := by
  unfold delE at he
  cases hti : tyI P t with
  | none => simp [hti] at he
  | some ti =>
    obtain ⟨inf, d, z, hinf, hd, _, htd, _⟩ := tyI_spec hti
    simp only [hti, Option.bind_some] at he
    split at he
    · rename_i kt et i kv heq
      rw [htd] at heq
      rw [td_map heq] at hd
      cases htk : tyI P kt with
      | none => simp [htk] at he
      | some tk =>
        obtain ⟨_, dk, _, _, hdk, _, htdk, _⟩ := tyI_spec htk
        simp only [htk, Option.bind_some] at he
        split at he
        · rename_i es c hi
          obtain ⟨b, sz, L, rfl, hb, hw, hL⟩ := map_blk hh hm hi
          cases hf : findK tk.d kv es with
          | none => simp [hf] at he
          | some r =>
            simp only [hf, Option.map_some] at he
            injection he with he
            rw [htdk] at hf
            rw [hk.sc_inv] at h01
            obtain ⟨h1, h2⟩ := findK_run hdk hL hf
            rcases h2 with ⟨rfl, h3⟩ | ⟨j, j', e, l, u, bo, rfl, h3, h4, h5, h6, h7, h8, h9, h10, h11, h12, h13⟩
            · have hlt : i < h.length := (List.getElem?_eq_some_iff.1 hi).1
              have hid : h.set i (.map es c) = h := by
                apply List.ext_getElem?
                intro n
                rw [List.getElem?_set]
                split
                · rename_i hn; subst hn; simp [hlt, hi]; exact (List.getElem?_eq_some_iff.1 hi).2.symm
                · rfl
              have := hh.setMap (L1 := L) (c' := c) hi hb hw hL
              rw [hid] at this
              subst he
              refine ⟨_, ?_, this⟩
              simp [Builtin.delete_, hats, h0, h01, run_underlying hd, run_getMap hw, h1, h3, run_setMap _ hw]
            · subst he
              have hj : j' < L.size := by simpa using (List.getElem?_eq_some_iff.1 h12).1
              refine ⟨_, ?_, hh.setMap (L1 := L.eraseIdxIfInBounds j') (c' := c) hi hb hw (by
                rw [Array.eraseIdxIfInBounds, dif_pos hj]
                simp only [Array.toList_eraseIdx]
                exact ⟨l.eraseIdx j, perm_erase h7 h12 h11, h8.erase j, fun x hx => h9 x (List.mem_of_mem_eraseIdx hx), h10.sublist ((List.eraseIdx_sublist l j).map _)⟩)⟩
              simp [Builtin.delete_, hats, h0, h01, run_underlying hd, run_getMap hw, h1, h3, run_setMap _ hw]
        · cases he
    · cases he

theorem entE_sound (hh : Hp P w Pr β h) {t : TypeId} {m k v : V} {u1 u2 : Value} {h' : H} (hm : RV w Pr β m u1) (hk : RV w Pr β k u2) (he : entE P t m k h = some (v, h')) :
    ∃ r w', (Instr.mapEntry t u1 u2).run P w = .ok r w' ∧ Ext w Pr β w' Pr β ∧ Hp P w' Pr β h' ∧ RV w' Pr β v r := by
  unfold entE at he
  cases hti : tyI P t with
  | none => simp [hti] at he
  | some ti =>
    obtain ⟨inf, d, z, hinf, hd, _, htd, _⟩ := tyI_spec hti
    simp only [hti, Option.bind_some] at he
    split at he
    · rename_i kt et i kv heq
      rw [htd] at heq
      rw [td_map heq] at hd
      cases htk : tyI P kt with
      | none => simp [htk] at he
      | some tk =>
        obtain ⟨_, dk, _, _, hdk, _, htdk, _⟩ := tyI_spec htk
        cases hte : tyI P et with
        | none => simp [htk, hte] at he
        | some te =>
          obtain ⟨ie, ze, hie, hze, hzv⟩ := tyI_zv hte
          simp only [htk, hte, Option.bind_some] at he
          split at he
          · rename_i es c hi
            obtain ⟨b, sz, L, rfl, hb, hw, hL⟩ := map_blk hh hm hi
            cases hf : findK tk.d kv es with
            | none => simp [hf] at he
            | some r =>
              simp only [hf, Option.bind_some] at he
              rw [htdk] at hf
              rw [hk.sc_inv]
              obtain ⟨h1, h2⟩ := findK_run hdk hL hf
              rcases h2 with ⟨rfl, h3⟩ | ⟨j, j', e, l, u, bo, rfl, _⟩
              · injection he with he
                injection he with e1 e2
                subst e1 e2
                have hz : RV w Pr β (zeroE te) ze := by rw [zeroE, hzv]; exact .ofVal _
                obtain ⟨g1, g2⟩ := hh.setMap (L1 := L.push ⟨kv, ze, c⟩) (c' := c + 1) hi hb hw (by simpa using hL.push hz)
                have := RV.mk_tup (RL.cons (g1.rv hh hz) (RL.cons (RV.mk_sc (goInt c)) .nil))
                refine ⟨_, _, ?_, g1, g2, this⟩
                simp [Instr.mapEntry, run_underlying hd, run_getMap hw, h1, h3, run_setMap _ hw, run_zero hie hze]
              · cases he
          · cases he
    · cases he

theorem findIdx_born {l : List MapEntry} {n j : Nat} {x : MapEntry} (hn : (l.map (·.born)).Nodup) (hj : l[j]? = some x) (hx : x.born = n) : l.findIdx? (fun e => (e.born : Int) == n) = some j := by
  rw [List.findIdx?_eq_some_iff_getElem]
  obtain ⟨hlt, rfl⟩ := List.getElem?_eq_some_iff.1 hj
  refine ⟨hlt, by simp [hx], fun i hij => ?_⟩
  simp
  intro h
  have h' : l[i].born = n := by omega
  have h1 : (l.map (·.born))[i]? = (l.map (·.born))[j]? := by
    simp [List.getElem?_map, List.getElem?_eq_getElem hlt, List.getElem?_eq_getElem (Nat.lt_trans hij hlt), h', hx]
  have := (List.getElem?_inj (by simp; omega) hn).1 h1
  omega

theorem estE_sound (hh : Hp P w Pr β h) {t : TypeId} {m st x : V} {u1 u2 u3 : Value} {h' : H} (hm : RV w Pr β m u1) (hk : RV w Pr β st u2) (hx : RV w Pr β x u3) (he : estE m st x h = some h') :
    ∃ w', (Instr.entryStore t u1 u2 u3).run P w = .ok () w' ∧ Ext w Pr β w' Pr β ∧ Hp P w' Pr β h' := by
  unfold estE at he
  cases hn : asI st with
  | none => simp [hn] at he
  | some n =>
    obtain ⟨kd, rfl⟩ := asI_inv hn hk
    simp only [hn, Option.bind_some] at he
    split at he
    · rename_i i
      split at he
      · rename_i es c hi
        obtain ⟨b, sz, L, rfl, hb, hw, hL⟩ := map_blk hh hm hi
        cases hf : es.findIdx? fun e => (e.2.2 : Int) == n + 1 with
        | none => simp [hf] at he
        | some k =>
          simp only [hf, Option.bind_some] at he
          cases hek : es[k]? with
          | none => simp [hek] at he
          | some e =>
            simp only [hek, Option.bind_some] at he
            split at he
            · rename_i hpos
              injection he with he
              subst he
              obtain ⟨l, h1, h2, h3, h4⟩ := hL
              obtain ⟨u, bo, h5, h6, h7⟩ := h2.2 k e hek
              have hbo : e.2.2 = bo + 1 := by omega
              have hst : (bo : Int) = n := by
                obtain ⟨hlt, hp, _⟩ := List.findIdx?_eq_some_iff_getElem.1 hf
                have : es[k] = e := (List.getElem?_eq_some_iff.1 hek).2
                rw [this] at hp
                simp at hp
                omega
              obtain ⟨j', hj'⟩ := List.mem_iff_getElem?.1 (h1.mem_iff.2 (List.mem_of_getElem? h5))
              have hfi : L.toList.findIdx? (fun e => (e.born : Int) == n) = some j' := by
                rw [← hst]
                exact findIdx_born ((h1.map _).nodup_iff.2 h4) hj' rfl
              refine ⟨_, ?_, hh.setMap (L1 := L.modify j' fun e => { e with val := u3 }) (c' := c) hi hb hw ?_⟩
              · have : L.findIdx? (fun e => (e.born : Int) == n) = some j' := by
                  have h0 := List.findIdx?_toArray (fun e : MapEntry => (e.born : Int) == n) L.toList
                  simp only [Array.toArray_toList] at h0
                  rw [h0]; exact hfi
                simp [Instr.entryStore, run_getMap hw, asInt, asIntOf, this, run_setMap _ hw]
              · rw [Array.toList_modify, modify_set _ hj']
                refine ⟨l.set k ⟨e.1, u3, bo⟩, perm_set h1 hj' h5, h2.set h6 hx, fun x hx => ?_, by rw [map_born_set h5]; exact h4⟩
                have hb1 : x.born ∈ l.map (·.born) := by rw [← map_born_set (k' := e.1) (u' := u3) h5]; exact List.mem_map.2 ⟨x, hx, rfl⟩
                obtain ⟨y, hy, hyx⟩ := List.mem_map.1 hb1
                have := h3 y hy
                omega
            · cases he
      · cases he
    · cases he

end
end Go.Ab
