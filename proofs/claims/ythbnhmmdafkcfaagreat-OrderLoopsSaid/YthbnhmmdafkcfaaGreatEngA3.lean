/- An evaluator of the program over states of which some values are told, and that what it says the program does. -/
import Derived.Test.YthbnhmmdafkcfaaGreatEngA2
import Derived.Below
set_option linter.unusedVariables false
namespace Go.Ab

/-- 't' is told by 'v': what it leads to lies in blocks of 'Pr'. -/
inductive RT (w : World) (Pr : Nat → Prop) : T → Value → Prop where
  | sc (v : Value) : RT w Pr (.sc v) v
  | nl (sz : Nat) (A : Option Addr) (c : Nat) : RT w Pr (.sl sz []) (.slice A 0 c)
  | sl (sz : Nat) (es : List (List T)) (b o n c : Nat) (f : Nat → Nat → Value) (hn : n = es.length) (hc : n ≤ c) (hp : Pr b)
      (hs : ∀ (j : Nat) (ts : List T), es[j]? = some ts → ts.length = sz)
      (hw : ∀ (j : Nat) (ts : List T) (k : Nat) (t : T), es[j]? = some ts → ts[k]? = some t → w.cell? ⟨b, o + (j * sz + k), none⟩ = some (f j k))
      (hr : ∀ (j : Nat) (ts : List T) (k : Nat) (t : T), es[j]? = some ts → ts[k]? = some t → RT w Pr t (f j k)) : RT w Pr (.sl sz es) (.slice (some ⟨b, o, none⟩) n c)

abbrev Bt := List (Nat × Nat)

inductive RV (w : World) (Pr : Nat → Prop) (β : Bt) : V → Value → Prop where
  | tr {t : T} {v : Value} (h : RT w Pr t v) : RV w Pr β (.tr t) v
  | ptr {i j o b sz : Nat} (h : β[i]? = some (b, sz)) : RV w Pr β (.ptr i j o) (.pointer (some ⟨b, j * sz + o, none⟩))
  | ep {cs : List T} {b o : Nat} (f : Nat → Value) (hp : Pr b) (hw : ∀ (k : Nat) (t : T), cs[k]? = some t → w.cell? ⟨b, o + k, none⟩ = some (f k)) (hr : ∀ (k : Nat) (t : T), cs[k]? = some t → RT w Pr t (f k)) :
      RV w Pr β (.ep cs) (.pointer (some ⟨b, o, none⟩))
  | row {i j n c : Nat} {A : Option Addr} {cap b sz : Nat} (h : β[i]? = some (b, sz)) (hn : n ≤ cap) (hc : c ≤ cap) (ha : 0 < cap → A = some ⟨b, j * sz, none⟩)
      (hs : ∀ cs t fz, w.heap[b]? = some (.cells cs t fz) → (j + cap) * sz ≤ cs.size) : RV w Pr β (.row i j n c) (.slice A n cap)
  | fn {f : FuncId} {a b : List V} (va vb : List Value) (la : va.length = a.length) (lb : vb.length = b.length)
      (ha : ∀ (k : Nat) (v : V) (u : Value), a[k]? = some v → va[k]? = some u → RV w Pr β v u) (hb : ∀ (k : Nat) (v : V) (u : Value), b[k]? = some v → vb[k]? = some u → RV w Pr β v u) :
      RV w Pr β (.fn f a b) (.func (.func f) va.toArray vb.toArray)
  | mth {name : String} {r : V} (u : Value) (h : RV w Pr β r u) : RV w Pr β (.mth name r) (.func (.method name) #[u] #[])
  | mp {i b sz : Nat} (h : β[i]? = some (b, sz)) : RV w Pr β (.mp i) (.map (some b))
  | it {i b sz : Nat} (h : β[i]? = some (b, sz)) : RV w Pr β (.it i) (.pointer (some ⟨b, 0, none⟩))
  | ifc {t : TypeId} {v : V} {u : Value} (h : RV w Pr β v u) : RV w Pr β (.ifc t v) (.iface t u)
  | agg {cs : List V} (us : List Value) (l : us.length = cs.length) (h : ∀ (k : Nat) (v : V) (u : Value), cs[k]? = some v → us[k]? = some u → RV w Pr β v u) : RV w Pr β (.agg cs) (.agg us.toArray)
  | tup {vs : List V} (us : List Value) (l : us.length = vs.length) (h : ∀ (k : Nat) (v : V) (u : Value), vs[k]? = some v → us[k]? = some u → RV w Pr β v u) : RV w Pr β (.tup vs) (.tuple us.toArray)
  | dead {u : Value} : RV w Pr β .dead u

/-- Lists of values, one by one. -/
def RL (w : World) (Pr : Nat → Prop) (β : Bt) (vs : List V) (us : List Value) : Prop := us.length = vs.length ∧ ∀ (k : Nat) (v : V) (u : Value), vs[k]? = some v → us[k]? = some u → RV w Pr β v u

def RB (P : Program) (w : World) (Pr : Nat → Prop) (β : Bt) (b sz : Nat) : B → Prop
  | .cells t es ex => ∃ c, w.heap[b]? = some (.cells c t (0, 0)) ∧ szT P t = sz ∧ (∀ (j : Nat) (e : List V), es[j]? = some e → e.length = sz) ∧ es.length * sz ≤ c.size ∧
      (ex = true → c.size = es.length * sz) ∧ ∀ (j : Nat) (e : List V) (k : Nat) (v : V), es[j]? = some e → e[k]? = some v → ∃ u, c[j * sz + k]? = some u ∧ RV w Pr β v u
  | .map es c => ∃ (L : Array MapEntry) (l : List MapEntry), w.heap[b]? = some (.map L c) ∧ L.toList.Perm l ∧ l.length = es.length ∧ (∀ x ∈ l, x.born < c) ∧ (l.map (·.born)).Nodup ∧
      ∀ (k : Nat) (e : Value × V × Nat), es[k]? = some e → ∃ u bo, l[k]? = some ⟨e.1, u, bo⟩ ∧ (e.2.2 = 0 ∨ e.2.2 = bo + 1) ∧ RV w Pr β e.2.1 u
  | .str s p => w.heap[b]? = some (.stringIter s p)
  | .gone => True

def live (h : H) (i : Nat) : Prop := ∃ x, h[i]? = some x ∧ x ≠ .gone

structure Hp (P : Program) (w : World) (Pr : Nat → Prop) (β : Bt) (h : H) : Prop where
  len : β.length = h.length
  lt : ∀ (i b sz : Nat), β[i]? = some (b, sz) → b < w.heap.size
  blk : ∀ (i : Nat) (x : B) (b sz : Nat), h[i]? = some x → β[i]? = some (b, sz) → RB P w Pr β b sz x
  inj : ∀ (i i' b sz sz' : Nat), live h i → live h i' → β[i]? = some (b, sz) → β[i']? = some (b, sz') → i = i'
  prot : ∀ (i b sz : Nat), β[i]? = some (b, sz) → ¬ Pr b
  plt : ∀ b, Pr b → b < w.heap.size

structure Ext (w : World) (Pr : Nat → Prop) (β : Bt) (w' : World) (Pr' : Nat → Prop) (β' : Bt) : Prop where
  size : w.heap.size ≤ w'.heap.size
  os : w'.os = w.os
  tape : w'.tape = w.tape
  out : w'.output = w.output
  pr : ∀ b, Pr b → Pr' b
  new : ∀ b, Pr' b → Pr b ∨ w.heap.size ≤ b
  be : ∀ (i : Nat) (x : Nat × Nat), β[i]? = some x → β'[i]? = some x
  bn : ∀ (i b sz : Nat), β'[i]? = some (b, sz) → (∃ i' sz' : Nat, β[i']? = some (b, sz')) ∨ w.heap.size ≤ b
  sz : ∀ (b : Nat) (cs' : Array Value) (t : TypeId) (fz : Nat × Nat), b < w.heap.size → w'.heap[b]? = some (.cells cs' t fz) → ∃ cs t' fz', w.heap[b]? = some (.cells cs t' fz') ∧ cs.size ≤ cs'.size
  keep : ∀ (b : Nat), b < w.heap.size → (∀ i sz : Nat, β[i]? ≠ some (b, sz)) → w'.heap[b]? = w.heap[b]?

theorem Ext.refl (w : World) (Pr : Nat → Prop) (β : Bt) : Ext w Pr β w Pr β where
  size := Nat.le_refl _
  os := rfl
  tape := rfl
  out := rfl
  pr := fun _ h => h
  new := fun _ h => .inl h
  be := fun _ _ h => h
  bn := fun i b sz h => .inl ⟨i, sz, h⟩
  sz := fun b cs' t fz _ h => ⟨cs', t, fz, h, Nat.le_refl _⟩
  keep := fun _ _ _ => rfl

theorem Ext.trans {w w1 w2 : World} {Pr Pr1 Pr2 : Nat → Prop} {β β1 β2 : Bt} (h : Ext w Pr β w1 Pr1 β1) (k : Ext w1 Pr1 β1 w2 Pr2 β2) : Ext w Pr β w2 Pr2 β2 where
  size := Nat.le_trans h.size k.size
  os := k.os.trans h.os
  tape := k.tape.trans h.tape
  out := k.out.trans h.out
  pr := fun b hb => k.pr b (h.pr b hb)
  new := fun b hb => by
    rcases k.new b hb with h1 | h1
    · exact h.new b h1
    · exact .inr (Nat.le_trans h.size h1)
  be := fun i x hx => k.be i x (h.be i x hx)
  bn := fun i b sz hb => by
    rcases k.bn i b sz hb with ⟨i', sz', h1⟩ | h1
    · exact h.bn i' b sz' h1
    · exact .inr (Nat.le_trans h.size h1)
  sz := fun b cs' t fz hb hc => by
    obtain ⟨cs1, t1, fz1, h1, l1⟩ := k.sz b cs' t fz (Nat.lt_of_lt_of_le hb h.size) hc
    obtain ⟨cs2, t2, fz2, h2, l2⟩ := h.sz b cs1 t1 fz1 hb h1
    exact ⟨cs2, t2, fz2, h2, Nat.le_trans l2 l1⟩
  keep := fun b hb hn => by
    rw [k.keep b (Nat.lt_of_lt_of_le hb h.size) (fun i sz hi => by
      rcases h.bn i b sz hi with ⟨i', sz', h1⟩ | h1
      · exact hn i' sz' h1
      · omega)]
    exact h.keep b hb hn

/-! ### what is told stays told -/
theorem RT.mono {w w' : World} {Pr Pr' : Nat → Prop} (hp : ∀ b, Pr b → Pr' b) (hk : ∀ b, Pr b → w'.heap[b]? = w.heap[b]?) {t : T} {v : Value} (h : RT w Pr t v) : RT w' Pr' t v := by
  induction h with
  | sc v => exact .sc v
  | nl sz A c => exact .nl sz A c
  | sl sz es b o n c f hn hc hb hs hw hr ih =>
    refine .sl sz es b o n c f hn hc (hp b hb) hs (fun j ts k t h1 h2 => ?_) ih
    have := hw j ts k t h1 h2
    unfold World.cell? at *
    rw [hk b hb]
    exact this

theorem RV.mono {w w' : World} {Pr Pr' : Nat → Prop} {β β' : Bt} (hp : ∀ b, Pr b → Pr' b) (hk : ∀ b, Pr b → w'.heap[b]? = w.heap[b]?)
    (hb : ∀ (i : Nat) (x : Nat × Nat), β[i]? = some x → β'[i]? = some x)
    (hz : ∀ (i b sz : Nat) (cs' : Array Value) (t : TypeId) (fz : Nat × Nat), β[i]? = some (b, sz) → w'.heap[b]? = some (.cells cs' t fz) → ∃ cs t' fz', w.heap[b]? = some (.cells cs t' fz') ∧ cs.size ≤ cs'.size)
    {v : V} {u : Value} (h : RV w Pr β v u) : RV w' Pr' β' v u := by
  induction h with
  | tr h => exact .tr (h.mono hp hk)
  | ptr h => exact .ptr (hb _ _ h)
  | ep f h1 h2 h3 =>
    refine .ep f (hp _ h1) (fun k t ht => ?_) (fun k t ht => (h3 k t ht).mono hp hk)
    have := h2 k t ht
    unfold World.cell? at *
    rw [hk _ h1]
    exact this
  | row h hn hc ha hs =>
    refine .row (hb _ _ h) hn hc ha (fun cs t fz hh => ?_)
    obtain ⟨cs0, t0, fz0, h0, hl⟩ := hz _ _ _ _ _ _ h hh
    exact Nat.le_trans (hs cs0 t0 fz0 h0) hl
  | fn va vb la lb ha hb iha ihb => exact .fn va vb la lb iha ihb
  | mth u h ih => exact .mth u ih
  | mp h => exact .mp (hb _ _ h)
  | it h => exact .it (hb _ _ h)
  | ifc h ih => exact .ifc ih
  | agg us l h ih => exact .agg us l ih
  | tup us l h ih => exact .tup us l ih
  | dead => exact .dead

theorem Ext.prk {P : Program} {w w' : World} {Pr Pr' : Nat → Prop} {β β' : Bt} {h : H} (e : Ext w Pr β w' Pr' β') (hh : Hp P w Pr β h) : ∀ b, Pr b → w'.heap[b]? = w.heap[b]? :=
  fun b hb => e.keep b (hh.plt b hb) fun i sz hi => hh.prot i b sz hi hb

theorem Ext.rv {P : Program} {w w' : World} {Pr Pr' : Nat → Prop} {β β' : Bt} {h : H} (e : Ext w Pr β w' Pr' β') (hh : Hp P w Pr β h) {v : V} {u : Value} (hv : RV w Pr β v u) : RV w' Pr' β' v u :=
  hv.mono e.pr (e.prk hh) e.be fun i b sz cs' t fz hi hc => e.sz b cs' t fz (hh.lt i b sz hi) hc

theorem Ext.rl {P : Program} {w w' : World} {Pr Pr' : Nat → Prop} {β β' : Bt} {h : H} (e : Ext w Pr β w' Pr' β') (hh : Hp P w Pr β h) {vs : List V} {us : List Value} (hv : RL w Pr β vs us) : RL w' Pr' β' vs us :=
  ⟨hv.1, fun k v u h1 h2 => e.rv hh (hv.2 k v u h1 h2)⟩

/-- A block is told as before where the memory of that block is as before. -/
theorem RB.of {P : Program} {w w' : World} {Pr Pr' : Nat → Prop} {β β' : Bt} {b sz : Nat} {x : B} (hv : ∀ v u, RV w Pr β v u → RV w' Pr' β' v u) (hb : w'.heap[b]? = w.heap[b]?) (h : RB P w Pr β b sz x) : RB P w' Pr' β' b sz x := by
  cases x with
  | cells t es ex =>
    obtain ⟨c, h1, h2, h3, h4, h5, h6⟩ := h
    exact ⟨c, hb.trans h1, h2, h3, h4, h5, fun j e k v he hk => (h6 j e k v he hk).imp fun u ⟨q, r⟩ => ⟨q, hv _ _ r⟩⟩
  | map es clock =>
    obtain ⟨L, l, h1, h2, h3, h4, h5, h6⟩ := h
    exact ⟨L, l, hb.trans h1, h2, h3, h4, h5, fun k e hk => (h6 k e hk).imp fun u ⟨bo, q, q', r⟩ => ⟨bo, q, q', hv _ _ r⟩⟩
  | str s p => exact hb.trans h
  | gone => trivial

/-! ### the world moves: a draw, a new block, a block written -/
theorem Ext.drew {w : World} {Pr : Nat → Prop} {β : Bt} : Ext w Pr β w.drew Pr β := Ext.refl w Pr β |> fun h => ⟨h.size, h.os, h.tape, h.out, h.pr, h.new, h.be, h.bn, h.sz, h.keep⟩

theorem RV.drew {w : World} {Pr : Nat → Prop} {β : Bt} {v : V} {u : Value} (h : RV w Pr β v u) : RV w.drew Pr β v u :=
  RV.mono (w := w) (w' := w.drew) (β := β) (β' := β) (fun _ h => h) (fun _ _ => rfl) (fun _ _ h => h) (fun _ _ _ cs' t fz _ h => ⟨cs', t, fz, h, Nat.le_refl _⟩) h

theorem Hp.drew {P : Program} {w : World} {Pr : Nat → Prop} {β : Bt} {h : H} (hh : Hp P w Pr β h) : Hp P w.drew Pr β h where
  len := hh.len
  lt := hh.lt
  blk := fun i x b sz h1 h2 => (hh.blk i x b sz h1 h2).of (fun _ _ h => h.drew) rfl
  inj := hh.inj
  prot := hh.prot
  plt := hh.plt

theorem getElem?_append_one {α : Type} {l : List α} {x y : α} {i : Nat} (h : (l ++ [x])[i]? = some y) : l[i]? = some y ∨ (i = l.length ∧ y = x) := by
  rw [List.getElem?_append] at h
  split at h
  · exact .inl h
  · rename_i hn
    right
    have : i - l.length = 0 := by
      rcases Nat.eq_zero_or_pos (i - l.length) with h0 | h0
      · exact h0
      · rw [List.getElem?_eq_none (by simp; omega)] at h; cases h
    rw [this] at h
    simp at h
    exact ⟨by omega, h.symm⟩

/-- A new block. -/
theorem Ext.alloc {P : Program} {w : World} {Pr : Nat → Prop} {β : Bt} {h : H} (hh : Hp P w Pr β h) (o : Obj) (sz : Nat) : Ext w Pr β (w.alloc o) Pr (β ++ [(w.heap.size, sz)]) where
  size := by simp
  os := rfl
  tape := rfl
  out := rfl
  pr := fun _ h => h
  new := fun _ h => .inl h
  be := fun i x hx => by rw [List.getElem?_append_left (List.getElem?_eq_some_iff.1 hx).1]; exact hx
  bn := fun i b s hb => by
    rcases getElem?_append_one hb with h1 | ⟨_, h1⟩
    · exact .inl ⟨i, s, h1⟩
    · injection h1 with h1 _
      exact .inr (by omega)
  sz := fun b cs' t fz hb hc => by
    rw [heap_alloc_old w o b hb] at hc
    exact ⟨cs', t, fz, hc, Nat.le_refl _⟩
  keep := fun b hb _ => heap_alloc_old w o b hb

theorem Hp.alloc {P : Program} {w : World} {Pr : Nat → Prop} {β : Bt} {h : H} (hh : Hp P w Pr β h) (o : Obj) (sz : Nat) (x : B)
    (hx : RB P (w.alloc o) Pr (β ++ [(w.heap.size, sz)]) w.heap.size sz x) : Hp P (w.alloc o) Pr (β ++ [(w.heap.size, sz)]) (h ++ [x]) where
  len := by simp [hh.len]
  lt := fun i b s hb => by
    rcases getElem?_append_one hb with h1 | ⟨_, h1⟩
    · have := hh.lt i b s h1
      simp
      omega
    · injection h1 with h1 _
      simp
      omega
  blk := fun i y b s h1 h2 => by
    rcases getElem?_append_one h2 with h3 | ⟨h3, h4⟩
    · have hi : i < h.length := by rw [← hh.len]; exact (List.getElem?_eq_some_iff.1 h3).1
      rw [List.getElem?_append_left hi] at h1
      exact (hh.blk i y b s h1 h3).of (fun v u hv => (Ext.alloc hh o sz).rv hh hv) (heap_alloc_old w o b (hh.lt i b s h3))
    · injection h4 with h4 h5
      subst h4 h5
      rw [h3, hh.len] at h1
      simp at h1
      subst h1
      exact hx
  inj := fun i i' b s s' hl hl' h1 h2 => by
    rcases getElem?_append_one h1 with h3 | ⟨h3, h4⟩ <;> rcases getElem?_append_one h2 with h5 | ⟨h5, h6⟩
    · have hi : i < h.length := by rw [← hh.len]; exact (List.getElem?_eq_some_iff.1 h3).1
      have hi' : i' < h.length := by rw [← hh.len]; exact (List.getElem?_eq_some_iff.1 h5).1
      obtain ⟨x1, hx1, hn1⟩ := hl
      obtain ⟨x2, hx2, hn2⟩ := hl'
      rw [List.getElem?_append_left hi] at hx1
      rw [List.getElem?_append_left hi'] at hx2
      exact hh.inj i i' b s s' ⟨x1, hx1, hn1⟩ ⟨x2, hx2, hn2⟩ h3 h5
    · injection h6 with h6 _
      have := hh.lt i b s h3
      omega
    · injection h4 with h4 _
      have := hh.lt i' b s' h5
      omega
    · omega
  prot := fun i b s hb => by
    rcases getElem?_append_one hb with h1 | ⟨_, h1⟩
    · exact hh.prot i b s h1
    · injection h1 with h1 _
      intro hp
      have := hh.plt b hp
      omega
  plt := fun b hb => by
    have := hh.plt b hb
    simp
    omega

/-- A block written: what it holds is told anew. -/
theorem Ext.write {w w' : World} {Pr : Nat → Prop} {β : Bt} {i b sz : Nat} (hi : β[i]? = some (b, sz)) (hs : w'.heap.size = w.heap.size) (ho : w'.os = w.os) (ht : w'.tape = w.tape) (hu : w'.output = w.output)
    (hk : ∀ k, k ≠ b → w'.heap[k]? = w.heap[k]?)
    (hz : ∀ cs' t fz, w'.heap[b]? = some (.cells cs' t fz) → ∃ cs t' fz', w.heap[b]? = some (.cells cs t' fz') ∧ cs.size ≤ cs'.size) : Ext w Pr β w' Pr β where
  size := by omega
  os := ho
  tape := ht
  out := hu
  pr := fun _ h => h
  new := fun _ h => .inl h
  be := fun _ _ h => h
  bn := fun i b sz h => .inl ⟨i, sz, h⟩
  sz := fun k cs' t fz _ hc => by
    by_cases hkb : k = b
    · subst hkb; exact hz cs' t fz hc
    · rw [hk k hkb] at hc; exact ⟨cs', t, fz, hc, Nat.le_refl _⟩
  keep := fun k _ hn => hk k fun e => hn i sz (e ▸ hi)

theorem Hp.write {P : Program} {w w' : World} {Pr : Nat → Prop} {β : Bt} {h : H} (hh : Hp P w Pr β h) {i b sz : Nat} {x y : B} (hi : β[i]? = some (b, sz)) (hx : h[i]? = some x) (hl : x ≠ .gone)
    (e : Ext w Pr β w' Pr β) (hs : w'.heap.size = w.heap.size) (hk : ∀ k, k ≠ b → w'.heap[k]? = w.heap[k]?) (hy : RB P w' Pr β b sz y) : Hp P w' Pr β (h.set i y) where
  len := by simp [hh.len]
  lt := fun i b s hb => by rw [hs]; exact hh.lt i b s hb
  blk := fun k z c s h1 h2 => by
    by_cases hki : k = i
    · subst hki
      rw [hi] at h2
      injection h2 with h2
      injection h2 with h2 h3
      subst h2 h3
      have : k < h.length := (List.getElem?_eq_some_iff.1 hx).1
      rw [List.getElem?_set_self this] at h1
      injection h1 with h1
      subst h1
      exact hy
    · rw [List.getElem?_set_ne (Ne.symm hki)] at h1
      have hr := hh.blk k z c s h1 h2
      cases z with
      | gone => trivial
      | cells t es ex => exact hr.of (fun v u hv => e.rv hh hv) (hk c fun hcb => hki (hh.inj k i b s sz ⟨_, h1, by simp⟩ ⟨x, hx, hl⟩ (hcb ▸ h2) hi))
      | map es cl => exact hr.of (fun v u hv => e.rv hh hv) (hk c fun hcb => hki (hh.inj k i b s sz ⟨_, h1, by simp⟩ ⟨x, hx, hl⟩ (hcb ▸ h2) hi))
      | str t p => exact hr.of (fun v u hv => e.rv hh hv) (hk c fun hcb => hki (hh.inj k i b s sz ⟨_, h1, by simp⟩ ⟨x, hx, hl⟩ (hcb ▸ h2) hi))
  inj := fun k k' b s s' h1 h2 => hh.inj k k' b s s' (by
      obtain ⟨z, hz, hn⟩ := h1
      by_cases hki : k = i
      · subst hki; exact ⟨x, hx, hl⟩
      · rw [List.getElem?_set_ne (Ne.symm hki)] at hz; exact ⟨z, hz, hn⟩) (by
      obtain ⟨z, hz, hn⟩ := h2
      by_cases hki : k' = i
      · subst hki; exact ⟨x, hx, hl⟩
      · rw [List.getElem?_set_ne (Ne.symm hki)] at hz; exact ⟨z, hz, hn⟩)
  prot := hh.prot
  plt := fun b hb => by rw [hs]; exact hh.plt b hb

end Go.Ab
