/- An evaluator of the program over states of which some values are told, and that what it says the program does. -/
import Derived.Test.YthbnhmmdafkcfaaGreatEngF
import Derived.Maps.RangeRun
set_option linter.unusedVariables false
set_option linter.unusedSimpArgs false
namespace Go.Ab

/-! ### less is told -/
def wkL : List V → List V → Prop
  | [], [] => True
  | a :: l, b :: m => (b = a ∨ b = .dead) ∧ wkL l m
  | _, _ => False

def wkE : List (Value × V × Nat) → List (Value × V × Nat) → Prop
  | [], [] => True
  | a :: l, b :: m => b.1 = a.1 ∧ (b.2.1 = a.2.1 ∨ b.2.1 = .dead) ∧ b.2.2 = a.2.2 ∧ wkE l m
  | _, _ => False

def wkB : B → B → Prop
  | .map es c, .map es' c' => wkE es es' ∧ c' = c
  | a, b => b = a ∨ b = .gone

def wkH : H → H → Prop
  | [], [] => True
  | a :: l, b :: m => (b = a ∨ wkB a b) ∧ wkH l m
  | _, _ => False

theorem wkH_refl : ∀ (h : H), wkH h h
  | [] => trivial
  | _ :: l => ⟨.inl rfl, wkH_refl l⟩

theorem wkH_app : ∀ {h h' : H} (g : H), wkH h h' → wkH (h ++ g) (h' ++ g)
  | [], [], g, _ => wkH_refl g
  | _ :: _, _ :: _, g, hw => ⟨hw.1, wkH_app g hw.2⟩
  | [], _ :: _, _, hw => hw.elim
  | _ :: _, [], _, hw => hw.elim

section
variable {P : Program} {O : Orc} {w0 : World} {Pr0 : Nat → Prop} {β0 : Bt} {w : World} {Pr : Nat → Prop} {β : Bt}

theorem wkL_rl {vs vs' : List V} (hw : wkL vs vs') {us : List Value} (hl : RL w Pr β vs us) : RL w Pr β vs' us := by
  induction vs generalizing vs' us with
  | nil => cases vs' with | nil => exact hl | cons => exact hw.elim
  | cons v vs ih =>
    cases vs' with
    | nil => exact hw.elim
    | cons v' vs' =>
      obtain ⟨u, us', rfl, hu, hn⟩ := hl.cons_inv
      refine RL.cons ?_ (ih hw.2 hn)
      rcases hw.1 with rfl | rfl
      · exact hu
      · exact .dead

theorem wkE_ents {es es' : List (Value × V × Nat)} (hw : wkE es es') {l : List MapEntry} (hl : EntsO w Pr β es l) : EntsO w Pr β es' l := by
  induction es generalizing es' l with
  | nil => cases es' with | nil => exact hl | cons => exact hw.elim
  | cons e es ih =>
    cases es' with
    | nil => exact hw.elim
    | cons e' es' =>
      have h0 := hl.2 0 _ rfl
      obtain ⟨u, bo, l0, rfl, hu, hl0⟩ := hl.cons
      have h1 := ih hw.2.2.2 hl0
      refine ⟨by simp [h1.1], fun k x hk => ?_⟩
      cases k with
      | zero =>
        simp at hk
        subst hk
        obtain ⟨u', bo', h2, h3, h4⟩ := h0
        simp at h2
        obtain ⟨rfl, rfl⟩ := h2
        refine ⟨u, bo, by simp [hw.1], by rw [hw.2.2.1]; exact h3, ?_⟩
        rcases hw.2.1 with h5 | h5
        · rw [h5]; exact hu
        · rw [h5]; exact .dead
      | succ k => exact h1.2 k x (by simpa using hk)

theorem wkB_rb {b sz : Nat} {x y : B} (hw : wkB x y) (h : RB P w Pr β b sz x) : RB P w Pr β b sz y := by
  unfold wkB at hw
  split at hw
  · rename_i es c es' c'
    obtain ⟨h1, rfl⟩ := hw
    obtain ⟨L, l, g1, g2, g3, g4, g5, g6⟩ := h
    have := wkE_ents (w := w) (Pr := Pr) (β := β) h1 (l := l) ⟨g3, g6⟩
    exact ⟨L, l, g1, g2, this.1, g4, g5, this.2⟩
  · rcases hw with rfl | rfl
    · exact h
    · trivial

theorem wkH_at {h h' : H} (hw : wkH h h') : h'.length = h.length ∧ ∀ (i : Nat) (y : B), h'[i]? = some y → ∃ x, h[i]? = some x ∧ (y = x ∨ wkB x y) := by
  induction h generalizing h' with
  | nil => cases h' with | nil => exact ⟨rfl, fun i y hy => by simp at hy⟩ | cons => exact hw.elim
  | cons a l ih =>
    cases h' with
    | nil => exact hw.elim
    | cons b m =>
      obtain ⟨h1, h2⟩ := ih hw.2
      refine ⟨by simp [h1], fun i y hy => ?_⟩
      cases i with
      | zero => simp at hy; subst hy; exact ⟨a, rfl, hw.1⟩
      | succ i => exact h2 i y (by simpa using hy)

theorem wkB_live {x y : B} (hw : y = x ∨ wkB x y) (hy : y ≠ .gone) : x ≠ .gone := by
  rcases hw with rfl | hw
  · exact hy
  · unfold wkB at hw
    split at hw
    · simp
    · rcases hw with rfl | rfl
      · exact hy
      · exact absurd rfl hy

theorem Hp.weak {h h' : H} (hw : wkH h h') (hh : Hp P w Pr β h) : Hp P w Pr β h' where
  len := by rw [(wkH_at hw).1]; exact hh.len
  lt := hh.lt
  blk := fun i y b sz h1 h2 => by
    obtain ⟨x, hx, h3⟩ := (wkH_at hw).2 i y h1
    have := hh.blk i x b sz hx h2
    rcases h3 with rfl | h3
    · exact this
    · exact wkB_rb h3 this
  inj := fun i i' b sz sz' h1 h2 => hh.inj i i' b sz sz' (by
      obtain ⟨y, hy, hn⟩ := h1
      obtain ⟨x, hx, h3⟩ := (wkH_at hw).2 i y hy
      exact ⟨x, hx, wkB_live h3 hn⟩) (by
      obtain ⟨y, hy, hn⟩ := h2
      obtain ⟨x, hx, h3⟩ := (wkH_at hw).2 i' y hy
      exact ⟨x, hx, wkB_live h3 hn⟩)
  prot := hh.prot
  plt := hh.plt

theorem Rel.weak {s s' : St} {a : Act} (ht : wkL s.tm s'.tm) (hw : wkH s.h s'.h) (hr : Rel P w0 Pr0 β0 s a w) : Rel P w0 Pr0 β0 s' a w := by
  obtain ⟨Pr, β, hb, hh, hl, hd⟩ := hr
  exact ⟨Pr, β, hb, hh.weak hw, wkL_rl ht hl, hd⟩

/-- A call of which less is told. -/
theorem Run.weak {K : FuncId} {args : List V} {h : H} {v v1 v2 : V} {h' h1 h2 : H} (hr : Run P K args h v h') (hv : wkL [v] [v1]) (hw : wkH h' h1) (hg : gcE h.length v1 (h1.map sortB) = some (v2, h2)) : Run P K args h v2 h2 := by
  intro w Pr β us hh hl
  refine Calls.mono (hr w Pr β us hh hl) fun e w' hres => ?_
  obtain ⟨r, Pr', β', rfl, hext, hh1, hv1⟩ := hres
  obtain ⟨β2, k1, k2, k3⟩ := gcE_sound hext (Nat.le_of_eq hh.len) (hh1.weak hw).sort (by
    rcases hv.1 with rfl | rfl
    · exact hv1
    · exact .dead) hg
  exact ⟨r, Pr', β2, rfl, k1, k2, k3⟩

/-! ### a range over a map -/
abbrev itv (r : Nat) : V := .tr (.sc (.pointer (some ⟨r, 0, none⟩)))

/-- A state, and an iterator in block r over the map i (whose entries' stamps are all known); rem: which entries are still to come. -/
def RelIt (P : Program) (w0 : World) (Pr0 : Nat → Prop) (β0 : Bt) (i : Nat) (es : List (Value × V × Nat)) (c tIt r : Nat) (rem : List Nat) (cur : Option Nat) (s : St) (a : Act) (w : World) : Prop :=
  ∃ (Pr : Nat → Prop) (β : Bt) (b sz : Nat) (seen : Array Nat), Ext w0 Pr0 β0 w Pr β ∧ Hp P w Pr β s.h ∧ RL w Pr β s.tm a.tmps.toList ∧ a.defers = [] ∧ β[i]? = some (b, sz) ∧ s.h[i]? = some (.map es c) ∧
    s.tm[tIt]? = some (itv r) ∧ w.heap[r]? = some (.mapIter (some b) c seen c) ∧ (∀ (j z : Nat), β[j]? ≠ some (r, z)) ∧ ¬ Pr r ∧
    (∀ e ∈ es, 0 < e.2.2 ∧ e.2.2 ≤ c) ∧ (∀ (k : Nat) (e : Value × V × Nat), es[k]? = some e → (k ∈ rem ↔ seen.contains (e.2.2 - 1) = false)) ∧
    w0.heap.size ≤ r ∧ ∀ k, cur = some k → ∃ (e : Value × V × Nat) (s0 : Array Nat), es[k]? = some e ∧ seen = s0.push (e.2.2 - 1)

theorem RelIt.rel {i : Nat} {es : List (Value × V × Nat)} {c tIt r : Nat} {rem : List Nat} {cur : Option Nat} {s : St} {a : Act} (h : RelIt P w0 Pr0 β0 i es c tIt r rem cur s a w) : Rel P w0 Pr0 β0 s a w := by
  obtain ⟨Pr, β, b, sz, seen, h1, h2, h3, h4, _⟩ := h
  exact ⟨Pr, β, h1, h2, h3, h4⟩

/-- A temporary written. -/
theorem RL.put {tm : List V} {a : Act} {t : Tmp} {v : V} {u : Value} (hl : RL w Pr β tm a.tmps.toList) (hv : RV w Pr β v u) : RL w Pr β (tm.set t v) (a.put (some t) u).tmps.toList := by
  show RL w Pr β (tm.set t v) (a.tmps.setIfInBounds t u).toList
  rw [Array.toList_setIfInBounds]
  exact hl.set hv

theorem evalTmp {tm : List V} {h : H} {a : Act} {t : Nat} {v : Value} (hl : RL w Pr β tm a.tmps.toList) (ht : tm[t]? = some (sc v)) : a.eval (.tmp t) = v := by
  have h1 := stands_of (s := ⟨tm, h⟩) hl (.tmp t)
  simp only [St.ev, List.getD_eq_getElem?_getD, ht, Option.getD_some] at h1
  exact h1.sc_inv

/-- The iterator is made. -/
theorem range_wpOp {ops : Array Oper} {n : Nat} {o : Oper} (ho : ops[n]? = some o) {T kt et : TypeId} {tM tIt : Nat} (hop : o.op = .range T (.tmp tM)) (hg : o.guard = none) (hd : o.dst = some tIt) (hT : P.underlying T = some (.map kt et))
    {s : St} {a : Act} {i : Nat} {es : List (Value × V × Nat)} {c : Nat} (hr : Rel P w0 Pr0 β0 s a w) (hm : s.tm[tM]? = some (.mp i)) (hi : s.h[i]? = some (.map es c)) (hit : tIt < s.tm.length) (hst : ∀ e ∈ es, 0 < e.2.2 ∧ e.2.2 ≤ c) {Q : Exit → Act → World → Prop} {K : Act → World → Prop}
    (hq : ∀ r a' w', RelIt P w0 Pr0 β0 i es c tIt r (List.range es.length) none ⟨s.tm.set tIt (itv r), s.h⟩ a' w' → K a' w') : wpOp P ops Q n K a w := by
  obtain ⟨Pr, β, hb, hh, hl, hdf⟩ := hr
  have h1 := stands_of (s := s) hl (.tmp tM)
  simp only [St.ev, List.getD_eq_getElem?_getD, hm, Option.getD_some] at h1
  obtain ⟨b, sz, L, hu, hbi, hw, hL⟩ := map_blk hh h1 hi
  unfold wpOp
  rw [ho]
  dsimp only
  unfold Region.wanted
  rw [hg]
  simp only [if_true]
  left
  unfold Oper.wp
  have hx : (execOp a.eval o).run P w = .ok (.value (.pointer (some ⟨w.heap.size, 0, none⟩))) (w.alloc (.mapIter (some b) c #[] c)) := by
    simp only [execOp, hop, hu]
    exact run_val (run_range_map w T kt et b L c hT hw)
  rw [hx, Oper.upon_value, hd]
  refine hq w.heap.size _ _ ?_
  have e : Ext w Pr β (w.alloc (.mapIter (some b) c #[] c)) Pr β :=
    ⟨by simp, rfl, rfl, rfl, fun _ h => h, fun _ h => .inl h, fun _ _ h => h, fun i b sz h => .inl ⟨i, sz, h⟩, fun k cs' t fz hk hc => by
      rw [heap_alloc_old w _ hk] at hc
      exact ⟨cs', t, fz, hc, Nat.le_refl _⟩, fun k hk _ => heap_alloc_old w _ hk⟩
  have hh' : Hp P (w.alloc (.mapIter (some b) c #[] c)) Pr β s.h :=
    { len := hh.len
      lt := fun i b sz h => by have := hh.lt i b sz h; simp; omega
      blk := fun i x b sz h1 h2 => (hh.blk i x b sz h1 h2).of (fun v u hv => e.rv hh hv) (heap_alloc_old w _ (hh.lt i b sz h2))
      inj := hh.inj
      prot := hh.prot
      plt := fun b h => by have := hh.plt b h; simp; omega }
  refine ⟨Pr, β, b, sz, #[], hb.trans e, hh', RL.put (e.rl hh hl) (RV.mk_sc _), hdf, hbi, hi, by simp [hit], heap_alloc_new .., fun j sz hj => ?_, fun hp => ?_, hst, fun k e hk => ?_, hb.size, fun k hk => by cases hk⟩
  · have := hh.lt j _ _ hj
    omega
  · have := hh.plt _ hp
    omega
  · have := (List.getElem?_eq_some_iff.1 hk).1
    simp [this]

/-- A block that is nobody's is written, and the tape may turn: what is told stands. -/
theorem it_step {s : St} {r : Nat} (hb : Ext w0 Pr0 β0 w Pr β) (hh : Hp P w Pr β s.h) {w1 : World} (h1 : w1 = w ∨ w1 = w.drew) (h0 : w0.heap.size ≤ r) (hn : ∀ (i sz : Nat), β[i]? ≠ some (r, sz)) (hp : ¬ Pr r) (o : Obj) :
    Ext w0 Pr0 β0 (ChangeMaps.setBlock w1 r o) Pr β ∧ Hp P (ChangeMaps.setBlock w1 r o) Pr β s.h ∧ ∀ v u, RV w Pr β v u → RV (ChangeMaps.setBlock w1 r o) Pr β v u := by
  have hk : ∀ k, k ≠ r → (ChangeMaps.setBlock w1 r o).heap[k]? = w.heap[k]? := fun k hk => by
    unfold ChangeMaps.setBlock
    have : (w1.heap.setIfInBounds r o)[k]? = w1.heap[k]? := Array.getElem?_setIfInBounds_ne (Ne.symm hk)
    rcases h1 with rfl | rfl
    · exact this
    · exact this
  have hs : (ChangeMaps.setBlock w1 r o).heap.size = w.heap.size := by
    unfold ChangeMaps.setBlock
    rcases h1 with rfl | rfl
    · simp
    · show (w.heap.setIfInBounds r o).size = w.heap.size
      simp
  have ho : (ChangeMaps.setBlock w1 r o).os = w.os := by rcases h1 with rfl | rfl <;> rfl
  have ht : (ChangeMaps.setBlock w1 r o).tape = w.tape := by rcases h1 with rfl | rfl <;> rfl
  have hu : (ChangeMaps.setBlock w1 r o).output = w.output := by rcases h1 with rfl | rfl <;> rfl
  have hv : ∀ v u, RV w Pr β v u → RV (ChangeMaps.setBlock w1 r o) Pr β v u := fun v u hv =>
    hv.mono (fun _ h => h) (fun b hb => hk b fun e => hp (e ▸ hb)) (fun _ _ h => h) fun i b sz cs' t fz hi hc => by
      rw [hk b fun e => hn i sz (e ▸ hi)] at hc
      exact ⟨cs', t, fz, hc, Nat.le_refl _⟩
  refine ⟨⟨by rw [hs]; exact hb.size, ho.trans hb.os, ht.trans hb.tape, hu.trans hb.out, hb.pr, hb.new, hb.be, hb.bn, fun b cs' t fz hlt hc => ?_, fun b hlt hno => ?_⟩, ?_, hv⟩
  · rw [hk b (by omega)] at hc
    exact hb.sz b cs' t fz hlt hc
  · rw [hk b (by omega)]
    exact hb.keep b hlt hno
  · exact {
      len := hh.len
      lt := fun i b sz h => by rw [hs]; exact hh.lt i b sz h
      blk := fun i x b sz h2 h3 => (hh.blk i x b sz h2 h3).of hv (hk b fun e => hn i sz (e ▸ h3))
      inj := hh.inj
      prot := hh.prot
      plt := fun b h => by rw [hs]; exact hh.plt b h }

/-- What is told of the iterator stands behind a run that does not name it. -/
theorem RelIt.frame {i : Nat} {es : List (Value × V × Nat)} {c tIt r : Nat} {rem : List Nat} {cur : Option Nat} {s s' : St} {a a' : Act} {w w' : World} (h : RelIt P w0 Pr0 β0 i es c tIt r rem cur s a w)
    (ht : s'.tm[tIt]? = some (itv r)) (hi : s'.h[i]? = some (.map es c))
    (hr : ∀ Pr β, Ext w0 Pr0 β0 w Pr β → Hp P w Pr β s.h → RL w Pr β s.tm a.tmps.toList → a.defers = [] → Rel P w Pr β s' a' w') : RelIt P w0 Pr0 β0 i es c tIt r rem cur s' a' w' := by
  obtain ⟨Pr, β, b, sz, seen, h1, h2, h3, h4, h5, h6, h7, h8, h9, h10, h11, h12, h13, h14⟩ := h
  obtain ⟨Pr', β', k1, k2, k3, k4⟩ := hr Pr β h1 h2 h3 h4
  have hlt : r < w.heap.size := (Array.getElem?_eq_some_iff.1 h8).1
  refine ⟨Pr', β', b, sz, seen, h1.trans k1, k2, k3, k4, k1.be i _ h5, hi, ht, ?_, fun j sz hj => ?_, fun hp => ?_, h11, h12, h13, h14⟩
  · rw [k1.keep r hlt (fun j sz => h9 j sz)]
    exact h8
  · rcases k1.bn j r sz hj with ⟨j', sz', hj'⟩ | hge
    · exact h9 j' sz' hj'
    · omega
  · rcases k1.new r hp with h | h
    · exact h10 h
    · omega

theorem evC_it (hm : P.follows .mixedOrders = true) (hO : OSound P (callE O)) {n : Nat} {cd : Code} {s s' : St} {ex : Ex} {i : Nat} {es : List (Value × V × Nat)} {c tIt r : Nat} {rem : List Nat} {cur : Option Nat} {a : Act} {w : World} {Q : Exit → Act → World → Prop}
    (he : evC P O (iter n) cd s = some (ex, s')) (h : RelIt P w0 Pr0 β0 i es c tIt r rem cur s a w) (ht : s'.tm[tIt]? = some (itv r)) (hi : s'.h[i]? = some (.map es c))
    (hq : ∀ a' w', RelIt P w0 Pr0 β0 i es c tIt r rem cur s' a' w' → Q ex.to a' w') : cd.wp P Q a w := by
  have h0 := h
  obtain ⟨Pr, β, b, sz, seen, h1, h2, h3, h4, h5, h6, h7, h8, h9, h10, h11, h12, h13, h14⟩ := h0
  refine evC_wp (w0 := w) (Pr0 := Pr) (β0 := β) hm hO n cd s ex s' a w Q he ⟨Pr, β, .refl .., h2, h3, h4⟩ fun a' w' hr' => hq a' w' ?_
  obtain ⟨Pr', β', k1, k2, k3, k4⟩ := hr'
  have hlt : r < w.heap.size := (Array.getElem?_eq_some_iff.1 h8).1
  refine ⟨Pr', β', b, sz, seen, h1.trans k1, k2, k3, k4, k1.be i _ h5, hi, ht, ?_, fun j sz hj => ?_, fun hp => ?_, h11, h12, h13, h14⟩
  · rw [k1.keep r hlt (fun j sz => h9 j sz)]
    exact h8
  · rcases k1.bn j r sz hj with ⟨j', sz', hj'⟩ | hge
    · exact h9 j' sz' hj'
    · omega
  · rcases k1.new r hp with h | h
    · exact h10 h
    · omega

theorem runE_it (hO : OSound P (callE O)) {ops : Array Oper} {rest : List Oper} {k : Nat} {s s' : St} {i : Nat} {es : List (Value × V × Nat)} {c tIt r : Nat} {rem : List Nat} {cur : Option Nat} {a : Act} {w : World} {Q : Exit → Act → World → Prop}
    (hd : ops.toList.drop k = rest) (he : runE P O ops rest s = some s') (h : RelIt P w0 Pr0 β0 i es c tIt r rem cur s a w) (ht : s'.tm[tIt]? = some (itv r)) (hi : s'.h[i]? = some (.map es c))
    (hq : ∀ a' w', RelIt P w0 Pr0 β0 i es c tIt r rem cur s' a' w' → Q .normal a' w') : wpOps P ops Q (List.range' k rest.length) a w := by
  have h0 := h
  obtain ⟨Pr, β, b, sz, seen, h1, h2, h3, h4, h5, h6, h7, h8, h9, h10, h11, h12, h13, h14⟩ := h0
  refine runE_wp (w0 := w) (Pr0 := Pr) (β0 := β) hO rest k s a w hd ⟨Pr, β, .refl .., h2, h3, h4⟩ he fun a' w' hr' => hq a' w' ?_
  obtain ⟨Pr', β', k1, k2, k3, k4⟩ := hr'
  have hlt : r < w.heap.size := (Array.getElem?_eq_some_iff.1 h8).1
  refine ⟨Pr', β', b, sz, seen, h1.trans k1, k2, k3, k4, k1.be i _ h5, hi, ht, ?_, fun j sz hj => ?_, fun hp => ?_, h11, h12, h13, h14⟩
  · rw [k1.keep r hlt (fun j sz => h9 j sz)]
    exact h8
  · rcases k1.bn j r sz hj with ⟨j', sz', hj'⟩ | hge
    · exact h9 j' sz' hj'
    · omega
  · rcases k1.new r hp with h | h
    · exact h10 h
    · omega

/-- What the machine has in a map's block, where all stamps are known. -/
theorem it_map {i b sz c : Nat} {es : List (Value × V × Nat)} {h : H} (hh : Hp P w Pr β h) (hi : h[i]? = some (.map es c)) (hb : β[i]? = some (b, sz)) (hst : ∀ e ∈ es, 0 < e.2.2 ∧ e.2.2 ≤ c) :
    ∃ L : Array MapEntry, w.heap[b]? = some (.map L c) ∧ (L.toList.map (·.born)).Nodup ∧ (∀ x ∈ L.toList, x.born < c) ∧ (∀ x ∈ L.toList, ∃ (k : Nat) (e : Value × V × Nat), es[k]? = some e ∧ x.key = e.1 ∧ x.born = e.2.2 - 1 ∧ RV w Pr β e.2.1 x.val) ∧
      ∀ (k : Nat) (e : Value × V × Nat), es[k]? = some e → ∃ x ∈ L.toList, x.key = e.1 ∧ x.born = e.2.2 - 1 ∧ RV w Pr β e.2.1 x.val := by
  obtain ⟨L, l, h1, h2, h3, h4, h5, h6⟩ := hh.blk i _ b sz hi hb
  refine ⟨L, h1, (h2.map _).nodup_iff.2 h5, fun x hx => h4 x (h2.mem_iff.1 hx), fun x hx => ?_, fun k e hk => ?_⟩
  · obtain ⟨k, hk⟩ := List.mem_iff_getElem?.1 (h2.mem_iff.1 hx)
    have hkl : k < es.length := by rw [← h3]; exact (List.getElem?_eq_some_iff.1 hk).1
    obtain ⟨u, bo, g1, g2, g3⟩ := h6 k _ (List.getElem?_eq_getElem hkl)
    rw [hk] at g1
    injection g1 with g1
    subst g1
    have := hst es[k] (List.getElem_mem hkl)
    exact ⟨k, es[k], List.getElem?_eq_getElem hkl, rfl, by dsimp only; omega, g3⟩
  · obtain ⟨u, bo, g1, g2, g3⟩ := h6 k e hk
    have := hst e (List.mem_of_getElem? hk)
    exact ⟨_, h2.mem_iff.2 (List.mem_of_getElem? g1), rfl, by dsimp only; omega, g3⟩

/-- The iterator's step. -/
theorem next_wpOp {ops : Array Oper} {n : Nat} {o : Oper} (ho : ops[n]? = some o) {tIt tN : Nat} (hop : o.op = .next (.tmp tIt) false) (hg : o.guard = none) (hd : o.dst = some tN) (hne : tN ≠ tIt)
    {s : St} {a : Act} {w : World} {i : Nat} {es : List (Value × V × Nat)} {c r : Nat} {rem : List Nat} {cur : Option Nat} (hr : RelIt P w0 Pr0 β0 i es c tIt r rem cur s a w) (hnd : (es.map fun e => e.2.2).Nodup) {Q : Exit → Act → World → Prop} {K : Act → World → Prop}
    (hq0 : ∀ a' w', (∀ k, k < es.length → k ∉ rem) → RelIt P w0 Pr0 β0 i es c tIt r rem cur ⟨s.tm.set tN (.tup [bv false]), s.h⟩ a' w' → K a' w')
    (hq1 : ∀ a' w' k e, k ∈ rem → es[k]? = some e → RelIt P w0 Pr0 β0 i es c tIt r (rem.filter (· ≠ k)) (some k) ⟨s.tm.set tN (.tup [bv true, sc e.1, e.2.1]), s.h⟩ a' w' → K a' w') : wpOp P ops Q n K a w := by
  obtain ⟨Pr, β, b, sz, seen, h1, h2, h3, h4, h5, h6, h7, h8, h9, h10, h11, h12, h13, h14⟩ := hr
  obtain ⟨L, g1, g2, g3, g4, g5⟩ := it_map h2 h6 h5 h11
  unfold wpOp
  rw [ho]
  dsimp only
  unfold Region.wanted
  rw [hg]
  simp only [if_true]
  left
  unfold Oper.wp
  have hev : a.eval (.tmp tIt) = .pointer (some ⟨r, 0, none⟩) := evalTmp (h := s.h) h3 h7
  have htm : (s.tm.set tN (.tup [bv false]))[tIt]? = some (itv r) ∧ ∀ v, (s.tm.set tN v)[tIt]? = some (itv r) := by
    constructor
    · rw [List.getElem?_set_ne hne]; exact h7
    · intro v; rw [List.getElem?_set_ne hne]; exact h7
  rcases run_next_at w o.type r b c c seen L c h8 g1 g3 (Nat.le_refl _) with ⟨hz, hrun⟩ | ⟨x, hx, w1, hw1, hrun⟩
  · have hx : (execOp a.eval o).run P w = .ok (.value (.tuple #[.bool false])) w := by
      simp only [execOp, hop, hev]
      exact run_val hrun
    rw [hx, Oper.upon_value, hd]
    refine hq0 _ _ (fun k hk hkr => ?_) ⟨Pr, β, b, sz, seen, h1, h2, RL.put h3 (RV.mk_tup (RL.cons (RV.mk_sc (.bool false)) .nil)), h4, h5, h6, htm.2 _, h8, h9, h10, h11, h12, h13, h14⟩
    have hs := (h12 k _ (List.getElem?_eq_getElem hk)).1 hkr
    obtain ⟨y, hy, _, hyb, _⟩ := g5 k _ (List.getElem?_eq_getElem hk)
    have : y ∈ (leftOf L seen).toList := by
      unfold leftOf
      simp only [Array.toList_filter, List.mem_filter]
      exact ⟨hy, by rw [hyb, hs]; rfl⟩
    have hz' : (leftOf L seen).toList.length = 0 := by simpa using hz
    rw [List.length_eq_zero_iff] at hz'
    rw [hz'] at this
    simp at this
  · obtain ⟨hxL, hxs⟩ := mem_left hx
    obtain ⟨k, e, k1, k2, k3, k4⟩ := g4 x hxL
    have hx : (execOp a.eval o).run P w = .ok (.value (.tuple #[.bool true, x.key, x.val])) (ChangeMaps.setBlock w1 r (.mapIter (some b) c (seen.push x.born) c)) := by
      simp only [execOp, hop, hev]
      exact run_val hrun
    rw [hx, Oper.upon_value, hd]
    obtain ⟨q1, q2, q3⟩ := it_step (s := s) h1 h2 hw1 h13 h9 h10 (.mapIter (some b) c (seen.push x.born) c)
    have hkr : k ∈ rem := (h12 k e k1).2 (by rw [← k3]; exact hxs)
    have hw1h : w1.heap.size = w.heap.size := by rcases hw1 with rfl | rfl <;> rfl
    have hlt : r < w.heap.size := (Array.getElem?_eq_some_iff.1 h8).1
    refine hq1 _ _ k e hkr k1 ⟨Pr, β, b, sz, seen.push x.born, q1, q2, RL.put ⟨h3.1, fun j v u hj hu => q3 v u (h3.2 j v u hj hu)⟩ ?_, h4, h5, h6, htm.2 _, ?_, h9, h10, h11, fun k' e' hk' => ?_, h13, fun k' hk' => ?_⟩
    · have := RV.mk_tup (RL.cons (RV.mk_sc (w := ChangeMaps.setBlock w1 r (.mapIter (some b) c (seen.push x.born) c)) (Pr := Pr) (β := β) (.bool true)) (RL.cons (RV.mk_sc e.1) (RL.cons (q3 _ _ k4) .nil)))
      rw [k2]
      simpa using this
    · unfold ChangeMaps.setBlock
      simp [Array.getElem?_setIfInBounds, hw1h, hlt]
    · have hne' : ∀ e'', es[k]? = some e'' → e''.2.2 = e.2.2 := fun e'' he => by rw [k1] at he; injection he with he; rw [he]
      rw [contains_push, List.mem_filter, h12 k' e' hk']
      by_cases hkk : k' = k
      · subst hkk
        rw [k1] at hk'
        injection hk' with hk'
        subst hk'
        simp [k3]
      · have hb1 : e'.2.2 - 1 ≠ x.born := fun h => by
          have p1 := h11 e' (List.mem_of_getElem? hk')
          have p2 := h11 e (List.mem_of_getElem? k1)
          have : e'.2.2 = e.2.2 := by omega
          have h0 : (es.map fun e => e.2.2)[k']? = (es.map fun e => e.2.2)[k]? := by simp [List.getElem?_map, hk', k1, this]
          exact hkk ((List.getElem?_inj (by rw [List.length_map]; exact (List.getElem?_eq_some_iff.1 hk').1) hnd).1 h0)
        simp [hkk, hb1]
    · injection hk' with hk'
      subst hk'
      exact ⟨e, seen, k1, by rw [k3]⟩

/-- The entry that the step handed out. -/
theorem entry_wpOp {ops : Array Oper} {n : Nat} {o : Oper} (ho : ops[n]? = some o) {tIt tE : Nat} (hop : o.op = .entry (.tmp tIt)) (hg : o.guard = none) (hd : o.dst = some tE) (hne : tE ≠ tIt)
    {s : St} {a : Act} {w : World} {i : Nat} {es : List (Value × V × Nat)} {c r k : Nat} {rem : List Nat} (hr : RelIt P w0 Pr0 β0 i es c tIt r rem (some k) s a w) (hnd : (es.map fun e => e.2.2).Nodup) {e : Value × V × Nat} (hk : es[k]? = some e) {Q : Exit → Act → World → Prop} {K : Act → World → Prop}
    (hq : ∀ a', RelIt P w0 Pr0 β0 i es c tIt r rem (some k) ⟨s.tm.set tE (.tup [sc e.1, e.2.1]), s.h⟩ a' w → K a' w) : wpOp P ops Q n K a w := by
  obtain ⟨Pr, β, b, sz, seen, h1, h2, h3, h4, h5, h6, h7, h8, h9, h10, h11, h12, h13, h14⟩ := hr
  obtain ⟨L, g1, g2, g3, g4, g5⟩ := it_map h2 h6 h5 h11
  obtain ⟨e0, s0, k1, k2⟩ := h14 k rfl
  rw [hk] at k1
  injection k1 with k1
  subst k1
  obtain ⟨x, hx, hx1, hx2, hx3⟩ := g5 k e hk
  unfold wpOp
  rw [ho]
  dsimp only
  unfold Region.wanted
  rw [hg]
  simp only [if_true]
  left
  unfold Oper.wp
  have hev : a.eval (.tmp tIt) = .pointer (some ⟨r, 0, none⟩) := evalTmp (h := s.h) h3 h7
  have hrun := run_entry_at (P := P) w r b c s0 L c x (by rw [hx2, ← k2]; exact h8) g1 hx g2
  have hxx : (execOp a.eval o).run P w = .ok (.value (.tuple #[x.key, x.val])) w := by
    simp only [execOp, hop, hev]
    exact run_val hrun
  rw [hxx, Oper.upon_value, hd]
  refine hq _ ⟨Pr, β, b, sz, seen, h1, h2, RL.put h3 ?_, h4, h5, h6, by rw [List.getElem?_set_ne hne]; exact h7, h8, h9, h10, h11, h12, h13, h14⟩
  have := RV.mk_tup (RL.cons (RV.mk_sc (w := w) (Pr := Pr) (β := β) e.1) (RL.cons hx3 .nil))
  rw [hx1]
  simpa using this

end
end Go.Ab

set_option linter.unusedVariables false
set_option linter.unusedSimpArgs false
namespace Go.Ab

section
variable {P : Program} {O : Orc} {w0 : World} {Pr0 : Nat → Prop} {β0 : Bt}

theorem RelIt.len {i : Nat} {es : List (Value × V × Nat)} {c tIt r : Nat} {rem : List Nat} {cur : Option Nat} {s : St} {a : Act} {w : World} (h : RelIt P w0 Pr0 β0 i es c tIt r rem cur s a w) : s.tm[tIt]? = some (itv r) ∧ s.h[i]? = some (.map es c) := by
  obtain ⟨Pr, β, b, sz, seen, h1, h2, h3, h4, h5, h6, h7, _⟩ := h
  exact ⟨h7, h6⟩

theorem filter_ne_lt {k : Nat} : ∀ {l : List Nat}, k ∈ l → (l.filter (· ≠ k)).length < l.length := by
  intro l hk
  have := List.length_filter_lt_length_iff_exists (p := fun x => decide (x ≠ k)) (l := l)
  exact this.2 ⟨k, hk, by simp⟩

open Classical in
/-- 'for k, v := range m' over a map that the rounds leave alone. -/
theorem maploop_wp2 (hm : P.follows .mixedOrders = true) (hO : OSound P (callE O)) {bid id1 b2 id2 : Nat} {o1 o2 p1 : Oper} {ops2 : Array Oper} {ps : List Oper} {BODY : Code} {tIt tN tOk tE N : Nat}
    (e1 : o1.op = .next (.tmp tIt) false) (g1 : o1.guard = none) (d1 : o1.dst = some tN) (e2 : o2.op = .extract (.tmp tN) 0) (g2 : o2.guard = none) (d2 : o2.dst = some tOk)
    (hps : ops2.toList = p1 :: ps) (e3 : p1.op = .entry (.tmp tIt)) (g3 : p1.guard = none) (d3 : p1.dst = some tE) (n1 : tN ≠ tIt) (n2 : tOk ≠ tIt) (n3 : tE ≠ tIt) (n4 : tN < N) (n5 : tOk < N)
    {i : Nat} {es : List (Value × V × Nat)} {c r : Nat} (hnd : (es.map fun e => e.2.2).Nodup) {Inv : List Nat → St → Prop}
    (hlen : ∀ rem s, Inv rem s → s.tm.length = N ∧ s.tm[tIt]? = some (itv r) ∧ s.h[i]? = some (.map es c))
    (hround : ∀ rem s k e, Inv rem s → k ∈ rem → es[k]? = some e → ∃ n s3 s4 s5, runE P O ops2 ps ⟨((s.tm.set tN (.tup [bv true, sc e.1, e.2.1])).set tOk (bv true)).set tE (.tup [sc e.1, e.2.1]), s.h⟩ = some s3 ∧
      s3.tm[tIt]? = some (itv r) ∧ s3.h[i]? = some (.map es c) ∧ evC P O (iter n) BODY s3 = some (.normal, s4) ∧ s4.tm[tIt]? = some (itv r) ∧ s4.h[i]? = some (.map es c) ∧ (∀ a w, RelIt P w0 Pr0 β0 i es c tIt r (rem.filter (· ≠ k)) (some k) s4 a w → RelIt P w0 Pr0 β0 i es c tIt r (rem.filter (· ≠ k)) (some k) s5 a w) ∧ Inv (rem.filter (· ≠ k)) s5)
    {Q : Exit → Act → World → Prop} (hq : ∀ rem s a' w', Inv rem s → (∀ k, k < es.length → k ∉ rem) → Rel P w0 Pr0 β0 ⟨(s.tm.set tN (.tup [bv false])).set tOk (bv false), s.h⟩ a' w' → Q .normal a' w')
    {rem : List Nat} {s : St} {cur : Option Nat} {a : Act} {w : World} (hI : Inv rem s) (hr : RelIt P w0 Pr0 β0 i es c tIt r rem cur s a w) :
    (Code.block bid (Code.loop ((Code.region id1 #[o1, o2] false).seq ((Code.cond (.tmp tOk) .skip (.exit bid)).seq (Code.block b2 ((Code.region id2 ops2 false).seq BODY)))))).wp P Q a w := by
  refine wp_block ?_
  let J : Nat → Act → World → Prop := fun n a w => ∃ rem s cur, rem.length ≤ n ∧ Inv rem s ∧ RelIt P w0 Pr0 β0 i es c tIt r rem cur s a w
  let μ : Act → World → Nat := fun a w => if h : ∃ n, J n a w then (least h).choose else 0
  have hμ : ∀ a w (h : ∃ n, J n a w), J (μ a w) a w ∧ ∀ k, k < μ a w → ¬ J k a w := fun a w h => by
    have : μ a w = (least h).choose := dif_pos h
    rw [this]
    exact (least h).choose_spec
  refine wp_loop (fun a w => ∃ n, J n a w) μ ⟨rem.length, rem, s, cur, Nat.le_refl _, hI, hr⟩ fun a w hJ => ?_
  obtain ⟨rem, s, cur, hle, hI, hr⟩ := (hμ a w hJ).1
  obtain ⟨hN, ht, hi⟩ := hlen rem s hI
  -- the step and its answer
  have hext : ∀ (vs : List V) (b : Bool) (cur : Option Nat) (rem : List Nat) (a' : Act) (w' : World) (Q' : Exit → Act → World → Prop), RelIt P w0 Pr0 β0 i es c tIt r rem cur ⟨s.tm.set tN (.tup (bv b :: vs)), s.h⟩ a' w' →
      (∀ a'' w'', RelIt P w0 Pr0 β0 i es c tIt r rem cur ⟨(s.tm.set tN (.tup (bv b :: vs))).set tOk (bv b), s.h⟩ a'' w'' → Q' .normal a'' w'') → wpOps P #[o1, o2] Q' (List.range' 1 1) a' w' := fun vs b cur rem a' w' Q' hr' hq' => by
    refine runE_it (rest := [o2]) hO rfl (s' := ⟨(s.tm.set tN (.tup (bv b :: vs))).set tOk (bv b), s.h⟩) ?_ hr' ?_ hi hq'
    · have : (s.tm.set tN (.tup (bv b :: vs)))[tN]? = some (.tup (bv b :: vs)) := by rw [List.getElem?_set_self (by omega)]
      simp [runE, stepE, wantE, g2, opE, e2, St.ev, List.getD_eq_getElem?_getD, this, St.put, d2]
    · dsimp only
      rw [List.getElem?_set_ne n2]
      exact hr'.len.1
  refine wp_seq (wp_region ?_)
  have hr2 : List.range #[o1, o2].size = 0 :: List.range' 1 1 := rfl
  rw [hr2, wpOps_cons]
  refine next_wpOp (o := o1) rfl e1 g1 d1 n1 hr hnd (fun a' w' hno hr' => ?_) fun a' w' k e hk hke hr' => ?_
  · refine hext [] false cur rem a' w' _ hr' fun a'' w'' hr'' => ?_
    obtain ⟨Pr, β, q1, q2, q3, q4⟩ := hr''.rel
    have hb : a''.eval (.tmp tOk) = .bool false := evalTmp (h := s.h) q3 (by simp [hN, n5])
    refine wp_seq (wp_cond hb ?_)
    simp only [Bool.false_eq_true, if_false]
    exact wp_exit (by
      simpa [Exit.then, Exit.inBlock] using hq rem s a'' w'' hI hno hr''.rel)
  · refine hext [sc e.1, e.2.1] true (some k) _ a' w' _ hr' fun a'' w'' hr'' => ?_
    obtain ⟨Pr, β, q1, q2, q3, q4⟩ := hr''.rel
    have hb : a''.eval (.tmp tOk) = .bool true := evalTmp (h := s.h) q3 (by simp [hN, n5])
    refine wp_seq (wp_cond hb ?_)
    simp only [if_true]
    refine wp_skip (wp_block (wp_seq (wp_region ?_)))
    have hsz : List.range ops2.size = 0 :: List.range' 1 ps.length := by
      have : ops2.size = ps.length + 1 := by rw [← Array.length_toList, hps]; rfl
      rw [this, List.range_eq_range', List.range'_succ]
    obtain ⟨n, s3, s4, s5, r1, r2, r3, r4, r6, r7, r8, r5⟩ := hround rem s k e hI hk hke
    rw [hsz, wpOps_cons]
    have hp0 : ops2[0]? = some p1 := by rw [← Array.getElem?_toList, hps]; rfl
    refine entry_wpOp hp0 e3 g3 d3 n3 hr'' hnd hke fun a3 hr3 => ?_
    refine runE_it (rest := ps) (k := 1) hO (by rw [hps]; rfl) r1 hr3 r2 r3 fun a4 w4 hr4 => ?_
    refine evC_it hm hO r4 hr4 r6 r7 fun a5 w5 hr5 => ?_
    have hJ' : J (rem.filter (· ≠ k)).length a5 w5 := ⟨_, s5, some k, Nat.le_refl _, r5, r8 a5 w5 hr5⟩
    have hlt := filter_ne_lt hk
    have : (∃ n, J n a5 w5) ∧ μ a5 w5 < μ a w := by
      refine ⟨⟨_, hJ'⟩, ?_⟩
      rcases Nat.lt_or_ge (rem.filter (· ≠ k)).length (μ a5 w5) with h | h
      · exact absurd hJ' ((hμ a5 w5 ⟨_, hJ'⟩).2 _ h)
      · omega
    simpa [Ex.to, Exit.then, Exit.inBlock] using this

/-- 'for k, v := range m' over a map that the rounds leave alone. -/
theorem maploop_wp (hm : P.follows .mixedOrders = true) (hO : OSound P (callE O)) {bid id1 b2 id2 : Nat} {o1 o2 p1 : Oper} {ops2 : Array Oper} {ps : List Oper} {BODY : Code} {tIt tN tOk tE N : Nat}
    (e1 : o1.op = .next (.tmp tIt) false) (g1 : o1.guard = none) (d1 : o1.dst = some tN) (e2 : o2.op = .extract (.tmp tN) 0) (g2 : o2.guard = none) (d2 : o2.dst = some tOk)
    (hps : ops2.toList = p1 :: ps) (e3 : p1.op = .entry (.tmp tIt)) (g3 : p1.guard = none) (d3 : p1.dst = some tE) (n1 : tN ≠ tIt) (n2 : tOk ≠ tIt) (n3 : tE ≠ tIt) (n4 : tN < N) (n5 : tOk < N)
    {i : Nat} {es : List (Value × V × Nat)} {c r : Nat} (hnd : (es.map fun e => e.2.2).Nodup) {Inv : List Nat → St → Prop}
    (hlen : ∀ rem s, Inv rem s → s.tm.length = N ∧ s.tm[tIt]? = some (itv r) ∧ s.h[i]? = some (.map es c))
    (hround : ∀ rem s k e, Inv rem s → k ∈ rem → es[k]? = some e → ∃ n s3 s4, runE P O ops2 ps ⟨((s.tm.set tN (.tup [bv true, sc e.1, e.2.1])).set tOk (bv true)).set tE (.tup [sc e.1, e.2.1]), s.h⟩ = some s3 ∧
      s3.tm[tIt]? = some (itv r) ∧ s3.h[i]? = some (.map es c) ∧ evC P O (iter n) BODY s3 = some (.normal, s4) ∧ Inv (rem.filter (· ≠ k)) s4)
    {Q : Exit → Act → World → Prop} (hq : ∀ rem s a' w', Inv rem s → (∀ k, k < es.length → k ∉ rem) → Rel P w0 Pr0 β0 ⟨(s.tm.set tN (.tup [bv false])).set tOk (bv false), s.h⟩ a' w' → Q .normal a' w')
    {rem : List Nat} {s : St} {cur : Option Nat} {a : Act} {w : World} (hI : Inv rem s) (hr : RelIt P w0 Pr0 β0 i es c tIt r rem cur s a w) :
    (Code.block bid (Code.loop ((Code.region id1 #[o1, o2] false).seq ((Code.cond (.tmp tOk) .skip (.exit bid)).seq (Code.block b2 ((Code.region id2 ops2 false).seq BODY)))))).wp P Q a w :=
  maploop_wp2 hm hO e1 g1 d1 e2 g2 d2 hps e3 g3 d3 n1 n2 n3 n4 n5 hnd hlen (fun rem s k e h1 h2 h3 => by
    obtain ⟨n, s3, s4, r1, r2, r3, r4, r5⟩ := hround rem s k e h1 h2 h3
    exact ⟨n, s3, s4, s4, r1, r2, r3, r4, (hlen _ _ r5).2.1, (hlen _ _ r5).2.2, fun a w h => h, r5⟩) hq hI hr

/-- A region whose last operation makes the iterator. -/
theorem rangeReg_wp (hO : OSound P (callE O)) {id : Nat} {ops : Array Oper} {pre : List Oper} {o : Oper} (hops : ops.toList = pre ++ [o]) {T kt et : TypeId} {tM tIt : Nat} (hop : o.op = .range T (.tmp tM)) (hg : o.guard = none) (hd : o.dst = some tIt) (hT : P.underlying T = some (.map kt et))
    {s s1 : St} {a : Act} {w : World} {i : Nat} {es : List (Value × V × Nat)} {c : Nat} (hr : Rel P w0 Pr0 β0 s a w) (he : runE P O ops pre s = some s1) (hm : s1.tm[tM]? = some (.mp i)) (hi : s1.h[i]? = some (.map es c)) (hit : tIt < s1.tm.length) (hst : ∀ e ∈ es, 0 < e.2.2 ∧ e.2.2 ≤ c) {Q : Exit → Act → World → Prop}
    (hq : ∀ r a' w', RelIt P w0 Pr0 β0 i es c tIt r (List.range es.length) none ⟨s1.tm.set tIt (itv r), s1.h⟩ a' w' → Q .normal a' w') : (Code.region id ops false).wp P Q a w := by
  refine wp_region ?_
  have hsz : List.range ops.size = List.range' 0 pre.length ++ [pre.length] := by
    have : ops.size = pre.length + 1 := by rw [← Array.length_toList, hops]; simp
    rw [this, List.range_succ, List.range_eq_range']
  rw [hsz]
  have key : ∀ (rest : List Oper) (k : Nat) (s : St) (a : Act) (w : World), pre.drop k = rest → Rel P w0 Pr0 β0 s a w → runE P O ops rest s = some s1 → wpOps P ops Q (List.range' k rest.length ++ [pre.length]) a w := by
    intro rest
    induction rest with
    | nil =>
      intro k s a w hk hr he
      simp [runE] at he
      subst he
      simp only [List.length_nil, List.range'_zero, List.nil_append]
      rw [wpOps_cons]
      have ho : ops[pre.length]? = some o := by rw [← Array.getElem?_toList, hops]; simp
      exact range_wpOp ho hop hg hd hT hr hm hi hit hst fun r a' w' hr' => hq r a' w' hr'
    | cons x rest ih =>
      intro k s a w hk hr he
      have hx : pre[k]? = some x := by
        have : (pre.drop k)[0]? = some x := by rw [hk]; rfl
        simpa [List.getElem?_drop] using this
      have hxo : ops[k]? = some x := by
        rw [← Array.getElem?_toList, hops, List.getElem?_append_left (List.getElem?_eq_some_iff.1 hx).1]
        exact hx
      simp only [List.length_cons, List.range'_succ, List.cons_append]
      rw [wpOps_cons]
      unfold runE at he
      cases h1 : stepE P O ops x s with
      | none => rw [h1] at he; cases he
      | some s2 =>
        rw [h1] at he
        simp only [Option.bind_some] at he
        have hk' : pre.drop (k + 1) = rest := by rw [← List.drop_drop, hk]; rfl
        exact step_wpOp hO hxo h1 hr fun a' w' hr' => ih (k + 1) s2 a' w' hk' hr' he
  exact key pre 0 s a w rfl hr he

end
end Go.Ab

set_option linter.unusedVariables false
set_option linter.unusedSimpArgs false
namespace Go.Ab

section
variable {P : Program} {O : Orc}

/-- A function by its body's run, step by step. -/
theorem fn_run {K : FuncId} {fn : Func} {c : Code} (hf : P.funcs[K]? = some fn) (hb : fn.body = some c) (hname : (fn.name == "runtime.NumGoroutine") = false) {args : List V} {h : H} {v : V} {h' : H}
    (hwp : ∀ (w0 : World) (Pr0 : Nat → Prop) (β0 : Bt) (a : Act) (w : World) (Q : Exit → Act → World → Prop), β0.length = h.length → Rel P w0 Pr0 β0 ⟨args ++ List.replicate (fn.ntmps - args.length) uv, h⟩ a w →
      (∀ (ex : Ex) (s' : St) (a' : Act) (w' : World), (∀ id, ex ≠ .exit id) → ((resE P s' fn.results.toList).bind fun v1 => gcE h.length v1 s'.h) = some (v, h') → Rel P w0 Pr0 β0 s' a' w' → Q ex.to a' w') → c.wp P Q a w) :
    Callable P K ∧ Run P K args h v h' := by
  refine ⟨⟨fn, hf, hname, by rw [hb]; rfl⟩, fun w Pr β us hh hl => ?_⟩
  refine calls_of_wp hf hb ?_
  have hrel : Rel P w Pr β ⟨args ++ List.replicate (fn.ntmps - args.length) uv, h⟩ { tmps := us.toArray ++ Array.replicate (fn.ntmps - us.toArray.size) undef, defers := [] } w := by
    refine ⟨Pr, β, .refl .., hh, ?_, rfl⟩
    have : (us.toArray ++ Array.replicate (fn.ntmps - us.toArray.size) undef).toList = us ++ List.replicate (fn.ntmps - args.length) undef := by
      simp [hl.1]
    rw [this]
    refine hl.append ⟨by simp, fun k v u h1 h2 => ?_⟩
    have e1 := List.mem_of_getElem? h1
    have e2 := List.mem_of_getElem? h2
    rw [List.eq_of_mem_replicate e1, List.eq_of_mem_replicate e2]
    exact RV.mk_sc _
  refine hwp w Pr β _ w _ hh.len hrel fun ex s' a' w' hex he hr => ?_
  obtain ⟨Pr1, β1, hb1, hh1, hl1, hd1⟩ := hr
  cases hre : resE P s' fn.results.toList with
  | none => rw [hre] at he; cases he
  | some v1 =>
    rw [hre] at he
    simp only [Option.bind_some] at he
    obtain ⟨u, h1, h2⟩ := resE_run hh1 hl1 hre
    obtain ⟨β2, h3, h4, h5⟩ := gcE_sound hb1 (Nat.le_of_eq hh.len) hh1 h2 he
    have hfin : a'.defers = [] ∧ ∃ u, (results fn a'.tmps).run P w' = .ok u w' ∧ ∃ r Pr' β', Ending.returned u = .returned r ∧ Ext w Pr β w' Pr' β' ∧ Hp P w' Pr' β' h' ∧ RV w' Pr' β' v r :=
      ⟨hd1, u, h1, u, Pr1, β2, rfl, h3, h4, h5⟩
    cases ex with
    | exit id => exact absurd rfl (hex id)
    | normal => exact hfin
    | ret => exact hfin

def sq1 : Code → Code
  | .seq a _ => a
  | c => c
def sq2 : Code → Code
  | .seq _ b => b
  | c => c
def inn : Code → Code
  | .block _ c => c
  | .loop c => c
  | c => c
def rops : Code → Array Oper
  | .region _ o _ => o
  | _ => #[]
def opAt (a : Array Oper) (i : Nat) : Oper := a.toList.getD i { dst := none, op := .assign (.const (.bool true)), type := 0, pos := "", after := #[], guard := none }

end
end Go.Ab

set_option linter.unusedVariables false
set_option linter.unusedSimpArgs false
namespace Go.Ab

section
variable {P : Program} {w : World} {Pr : Nat → Prop} {β : Bt}
theorem gcE_names {w0 : World} {Pr0 : Nat → Prop} {β0 : Bt} {h h' : H} {m : Nat} {v v' : V} {u : Value} (e : Ext w0 Pr0 β0 w Pr β) (hm : β0.length ≤ m) (hh : Hp P w Pr β h) (hv : RV w Pr β v u) (he : gcE m v h = some (v', h')) :
    ∃ β', Ext w0 Pr0 β0 w Pr β' ∧ Hp P w Pr β' h' ∧ RV w Pr β' v' u ∧ (∀ (i b sz : Nat), β'[i]? = some (b, sz) → ∃ j : Nat, β[j]? = some (b, sz)) ∧ ∀ i, i < m → i < β.length → β'[i]? = β[i]? := by
  unfold gcE at he
  dsimp only at he
  generalize hids : reach h 400 [] (List.range m ++ refs v) = ids at he
  have hnd : ids.Nodup := by rw [← hids]; exact reach_nodup _ _ _ _ (by simp)
  split at he
  · rename_i hc
    simp only [Bool.and_eq_true] at hc
    obtain ⟨⟨hc1, hc2⟩, hc3⟩ := hc
    injection he with he
    injection he with e1 e2
    subst e1 e2
    have hin : ∀ i ∈ ids, i < h.length ∧ ∀ j ∈ refsB ((h[i]?).getD .gone), j ∈ ids := fun i hi => by
      have := List.all_eq_true.1 hc2 i hi
      simp only [Bool.and_eq_true, decide_eq_true_eq] at this
      exact ⟨this.2, contains_mem this.1⟩
    have htake : ids.take m = List.range m := by simpa using hc3
    have hidm : ∀ i, i < m → ids[i]? = some i := fun i hi => by
      have h1 : (ids.take m)[i]? = (List.range m)[i]? := by rw [htake]
      rw [List.getElem?_take_of_lt hi] at h1
      rw [h1]
      simp [hi]
    have hnm : ∀ (k b sz : Nat), (subT β ids)[k]? = some (b, sz) → ∃ i : Nat, β[i]? = some (b, sz) := fun k b sz hk => by
      obtain ⟨i, hi, hie⟩ := map_getD_some hk
      obtain ⟨b2, s2, hb2⟩ := hh.at (List.getElem?_eq_getElem (hin i (List.mem_of_getElem? hi)).1)
      rw [hb2] at hie
      simp at hie
      exact ⟨i, by rw [hb2, hie.1, hie.2]⟩
    refine ⟨subT β ids, ⟨e.size, e.os, e.tape, e.out, e.pr, e.new, fun i x hx => ?_, fun k b sz hk => ?_, e.sz, e.keep⟩, hh.sub hnd (fun i hi => (hin i hi).1) (fun i hi x hx j hj => (hin i hi).2 j (by rw [hx]; exact hj)), hv.ren _ fun i hi x hx => subT_at (place_at (contains_mem hc1 i hi)) hx, hnm, fun i him hil => ?_⟩
    · have hi : i < m := Nat.lt_of_lt_of_le (List.getElem?_eq_some_iff.1 hx).1 hm
      exact subT_at (hidm i hi) (e.be i x hx)
    · obtain ⟨i, hi⟩ := hnm k b sz hk
      exact e.bn i b sz hi
    · rw [subT_at (hidm i him) (List.getElem?_eq_getElem hil)]
      exact (List.getElem?_eq_getElem hil).symm
  · cases he
end

/-- Of maps only some entries are still told. -/
def keepB (p : Value → Bool) : B → B
  | .map es c => .map (es.map fun e => if p e.1 then e else (e.1, .dead, e.2.2)) c
  | b => b

def pk (us is : List Int) : Value → Bool
  | .int .u8 n => us.contains n
  | .int .i64 n => is.contains n
  | _ => false

theorem keepE_wk (p : Value → Bool) : ∀ (es : List (Value × V × Nat)), wkE es (es.map fun e => if p e.1 then e else (e.1, .dead, e.2.2))
  | [] => trivial
  | e :: es => by
    refine ⟨?_, ?_, ?_, keepE_wk p es⟩ <;> dsimp only <;> split <;> simp

theorem keepB_wk (p : Value → Bool) (b : B) : keepB p b = b ∨ wkB b (keepB p b) := by
  cases b with
  | map es c => exact .inr ⟨keepE_wk p es, rfl⟩
  | _ => exact .inl rfl

theorem keepH_wk (p : Value → Bool) : ∀ (h : H), wkH h (h.map (keepB p))
  | [] => trivial
  | b :: h => ⟨keepB_wk p b, keepH_wk p h⟩

/-- A run, of which less is told. -/
def coarse (P : Program) (X : Orc) (n : Nat) (p : Value → Bool) (K : FuncId) (args : List V) (h : H) : Option (V × H) :=
  (evN P X n K args h).bind fun r => gcE h.length r.1 ((r.2.map (keepB p)).map sortB)

theorem coarse_sound {P : Program} (hm : P.follows .mixedOrders = true) {X : Orc} (hX : OSound P X) {n : Nat} {p : Value → Bool} {K : FuncId} {args : List V} {h : H} {v : V} {h' : H} (he : coarse P X n p K args h = some (v, h')) : Callable P K ∧ Run P K args h v h' := by
  unfold coarse at he
  cases h1 : evN P X n K args h with
  | none => rw [h1] at he; cases he
  | some r =>
    obtain ⟨v1, h2⟩ := r
    rw [h1] at he
    simp only [Option.bind_some] at he
    obtain ⟨g1, g2⟩ := evN_sound hm hX n K args h v1 h2 h1
    exact ⟨g1, g2.weak (v1 := v1) ⟨.inl rfl, trivial⟩ (keepH_wk p h2) he⟩

def mask (ks : List Nat) (tm : List V) : List V := tm.zipIdx.map fun p => if ks.contains p.2 then .dead else p.1

theorem mask_wk (ks : List Nat) : ∀ (tm : List V) (n : Nat), wkL tm ((tm.zipIdx n).map fun p => if ks.contains p.2 then .dead else p.1)
  | [], _ => trivial
  | v :: tm, n => by
    rw [List.zipIdx_cons, List.map_cons]
    refine ⟨?_, mask_wk ks tm (n + 1)⟩
    split <;> simp

/-- Less of a state is told, and what is not reached goes. -/
def coarseS (m : Nat) (ks : List Nat) (p : Nat → Value → Bool) (s : St) : Option St :=
  (gcE m (.tup (mask ks s.tm)) (s.h.zipIdx.map fun b => keepB (p b.2) b.1)).bind fun r => match r.1 with | .tup tm => some ⟨tm, r.2⟩ | _ => none

theorem keepI_wk (p : Nat → Value → Bool) : ∀ (h : H) (n : Nat), wkH h ((h.zipIdx n).map fun b => keepB (p b.2) b.1)
  | [], _ => trivial
  | b :: h, n => by
    rw [List.zipIdx_cons, List.map_cons]
    exact ⟨keepB_wk (p n) b, keepI_wk p h (n + 1)⟩

section
variable {P : Program} {O : Orc} {w0 : World} {Pr0 : Nat → Prop} {β0 : Bt}

theorem coarseS_spec {m : Nat} {ks : List Nat} {p : Nat → Value → Bool} {s s' : St} (he : coarseS m ks p s = some s') {w : World} {Pr : Nat → Prop} {β : Bt} {us : List Value} (hm : β0.length ≤ m) (hb : Ext w0 Pr0 β0 w Pr β) (hh : Hp P w Pr β s.h) (hl : RL w Pr β s.tm us) :
    ∃ β', Ext w0 Pr0 β0 w Pr β' ∧ Hp P w Pr β' s'.h ∧ RL w Pr β' s'.tm us ∧ (∀ (i b sz : Nat), β'[i]? = some (b, sz) → ∃ j : Nat, β[j]? = some (b, sz)) ∧ ∀ i : Nat, i < m → i < β.length → β'[i]? = β[i]? := by
  unfold coarseS at he
  cases hg : gcE m (.tup (mask ks s.tm)) (s.h.zipIdx.map fun b => keepB (p b.2) b.1) with
  | none => rw [hg] at he; cases he
  | some r =>
    obtain ⟨v, h'⟩ := r
    rw [hg] at he
    simp only [Option.bind_some] at he
    split at he
    · rename_i tm
      injection he with he
      subst he
      have hh1 := hh.weak (keepI_wk p s.h 0)
      have hl1 : RL w Pr β (mask ks s.tm) us := wkL_rl (mask_wk ks s.tm 0) hl
      obtain ⟨h1, h2⟩ := gcE_names hb hm hh1 (RV.mk_tup hl1) hg
      obtain ⟨q1, q2, q3, q4, q5⟩ := h2
      refine ⟨h1, q1, q2, ?_, q4, q5⟩
      obtain ⟨us', h4, h5⟩ := q3.tup_inv
      injection h4 with h4
      have : us' = us := by
        rw [← Array.toList_inj] at h4
        simpa using h4.symm
      rw [← this]
      exact h5
    · cases he

theorem Rel.coarse {m : Nat} {ks : List Nat} {p : Nat → Value → Bool} {s s' : St} {a : Act} {w : World} (hm : β0.length ≤ m) (he : coarseS m ks p s = some s') (hr : Rel P w0 Pr0 β0 s a w) : Rel P w0 Pr0 β0 s' a w := by
  obtain ⟨Pr, β, hb, hh, hl, hd⟩ := hr
  obtain ⟨β', h1, h2, h3, _⟩ := coarseS_spec he hm hb hh hl
  exact ⟨Pr, β', h1, h2, h3, hd⟩

theorem RelIt.coarse {m : Nat} {ks : List Nat} {p : Nat → Value → Bool} {s s' : St} (hm : β0.length ≤ m) (he : coarseS m ks p s = some s') {i : Nat} {es : List (Value × V × Nat)} {c tIt r : Nat} {rem : List Nat} {cur : Option Nat} (him : i < m) (ht : s'.tm[tIt]? = some (itv r)) (hi : s'.h[i]? = some (.map es c))
    {a : Act} {w : World} (h : RelIt P w0 Pr0 β0 i es c tIt r rem cur s a w) : RelIt P w0 Pr0 β0 i es c tIt r rem cur s' a w := by
  obtain ⟨Pr, β, b, sz, seen, h1, h2, h3, h4, h5, h6, h7, h8, h9, h10, h11, h12, h13, h14⟩ := h
  obtain ⟨β', q1, q2, q3, q4, q5⟩ := coarseS_spec he hm h1 h2 h3
  refine ⟨Pr, β', b, sz, seen, q1, q2, q3, h4, ?_, hi, ht, h8, fun j z hj => ?_, h10, h11, h12, h13, h14⟩
  · rw [q5 i him (List.getElem?_eq_some_iff.1 h5).1]
    exact h5
  · obtain ⟨j', hj'⟩ := q4 j r z hj
    exact h9 j' z hj'
theorem evC_coarse (hm' : P.follows .mixedOrders = true) (hO : OSound P (callE O)) {n : Nat} {c : Code} {s s' : St} {ex : Ex} {m : Nat} {ks : List Nat} {p : Nat → Value → Bool} (he : ((evC P O (iter n) c s).bind fun r => if r.1 = ex then coarseS m ks p r.2 else none) = some s') (hm : β0.length ≤ m) {a : Act} {w : World} {Q : Exit → Act → World → Prop} (hr : Rel P w0 Pr0 β0 s a w)
    (hq : ∀ a' w', Rel P w0 Pr0 β0 s' a' w' → Q ex.to a' w') : c.wp P Q a w := by
  cases h1 : evC P O (iter n) c s with
  | none => rw [h1] at he; cases he
  | some r =>
    rw [h1] at he
    simp only [Option.bind_some] at he
    split at he
    · rename_i hx
      subst hx
      exact evC_wp hm' hO n c s r.1 r.2 a w Q h1 hr fun a' w' h' => hq a' w' (h'.coarse hm he)
    · cases he
end

/-- In the map at cell `i0`, only `key` is no more told. -/
def pX (i0 : Nat) (key : Int) : Nat → Value → Bool := fun i v => match v with | .int _ n => !(i == i0 && n == key) | _ => true

/-- Only the keys listed stay told. -/
def pI (l : List (Nat × List Int)) : Nat → Value → Bool := fun i v => match v with | .int _ n => l.any fun x => x.1 == i && x.2.contains n | _ => false

/-- More functions that the evaluator need not run. -/
def orX (X Y : Orc) : Orc := fun K args h => match Y K args h with | some r => some r | none => X K args h

theorem orX_sound {P : Program} {X Y : Orc} (hX : OSound P X) (hY : OSound P Y) : OSound P (orX X Y) := by
  intro K args h v h' he
  unfold orX at he
  split at he
  · rename_i r hr
    injection he with he
    subst he
    exact hY K args h v h' hr
  · exact hX K args h v h' he

end Go.Ab

set_option linter.unusedVariables false
set_option linter.unusedSimpArgs false
/-! The evaluator where some values cannot be told: what they are is given, and what was met is kept. -/
namespace Go.Ab

/-- The values to come, and what was met in their places. -/
abbrev DS := List Value × List (Value × Value)

def ok : List (Value × Value) → Prop
  | [] => True
  | x :: l => x.1 = x.2 ∧ ok l

abbrev DO := FuncId → List V → H → DS → Option ((V × H) × DS)

/-- A value; where it is one of those: as given. -/
def askD (flag : Bool) (v : V) (q : DS) : Option (V × DS) :=
  if flag then (match v, q.1 with | .tr (.sc u), d :: ds => some (sc d, ds, (u, d) :: q.2) | _, _ => none) else some (v, q)

theorem askD_ok {flag : Bool} {v v' : V} {q q' : DS} (he : askD flag v q = some (v', q')) (hk : ok q'.2) : v' = v ∧ ok q.2 := by
  unfold askD at he
  split at he
  · split at he
    · injection he with he
      injection he with e1 e2
      subst e1 e2
      obtain ⟨h1, h2⟩ := hk
      dsimp only at h1
      rw [h1]
      exact ⟨rfl, h2⟩
    · cases he
  · injection he with he
    injection he with e1 e2
    subst e1 e2
    exact ⟨rfl, hk⟩

def callD (Od : DO) (K : FuncId) (args : List V) (h : H) (q : DS) : Option ((V × H) × DS) :=
  let ids := reach h 400 [] (refsL args)
  if args.all (inV ids) && ids.all (fun i => inB ids ((h[i]?).getD .gone) && B.there ((h[i]?).getD .gone)) then
    (Od K (renL (place ids) args) (sub h ids) q).bind fun r =>
      let f := outer h ids
      if ids.length ≤ r.1.2.length then
        some ((ren f r.1.1, putAll h ids ((r.1.2.take ids.length).map (renB f)) ++ (r.1.2.drop ids.length).map (renB f)), r.2)
      else none
  else none

def LeD (O : Orc) (Od : DO) : Prop := ∀ K args h q r q', Od K args h q = some (r, q') → ok q'.2 → O K args h = some r ∧ ok q.2

theorem callD_ok {O : Orc} {Od : DO} (hO : LeD O Od) {K : FuncId} {args : List V} {h : H} {q q' : DS} {r : V × H} (he : callD Od K args h q = some (r, q')) (hk : ok q'.2) : callE O K args h = some r ∧ ok q.2 := by
  unfold callD at he
  unfold callE
  dsimp only at he ⊢
  split at he
  · rename_i hc
    rw [if_pos hc]
    cases h1 : Od K (renL (place (reach h 400 [] (refsL args))) args) (Ab.sub h (reach h 400 [] (refsL args))) q with
    | none => rw [h1] at he; cases he
    | some p =>
      obtain ⟨r1, q1⟩ := p
      rw [h1] at he
      simp only [Option.bind_some] at he
      split at he
      · rename_i hl
        injection he with he
        injection he with e1 e2
        subst e2
        obtain ⟨h2, h3⟩ := hO _ _ _ _ _ _ h1 hk
        rw [h2]
        simp only [Option.bind_some]
        rw [if_pos hl, e1]
        exact ⟨rfl, h3⟩
      · cases he
  · cases he

def callOf (P : Program) (o : Oper) (ρ : Operand → V) : Option (FuncId × List V) :=
  match o.op with
  | .call { callee := .value f, args, .. } => callArgs P (ρ f) (args.toList.map ρ)
  | _ => none

theorem callOf_spec {P : Program} {O : Orc} {o : Oper} {ρ : Operand → V} {h : H} {c : FuncId × List V} (hc : callOf P o ρ = some c) : opE P O o ρ h = callE O c.1 c.2 h := by
  unfold callOf at hc
  unfold opE
  split at hc
  · rename_i f args ats hop
    simp only [hop]
    unfold calls
    rw [hc]
    rfl
  · cases hc

def flagT (F : Tmp → Bool) : Option Tmp → Bool
  | some t => F t
  | none => false

def stepD (P : Program) (O : Orc) (Od : DO) (F : Tmp → Bool) (ops : Array Oper) (o : Oper) (s : St) (q : DS) : Option (St × DS) :=
  (wantE ops o s.tm).bind fun w =>
    if w then
      (match callOf P o s.ev with
      | some c => (callD Od c.1 c.2 s.h q).map fun r => (s.put o.dst r.1.1 r.1.2, r.2)
      | none => (opE P O o s.ev s.h).bind fun r => (askD (flagT F o.dst) r.1 q).map fun x => (s.put o.dst x.1 r.2, x.2))
    else some (s.put o.dst uv s.h, q)

theorem stepD_ok {P : Program} {O : Orc} {Od : DO} (hO : LeD O Od) {F : Tmp → Bool} {ops : Array Oper} {o : Oper} {s s' : St} {q q' : DS} (he : stepD P O Od F ops o s q = some (s', q')) (hk : ok q'.2) : stepE P O ops o s = some s' ∧ ok q.2 := by
  unfold stepD at he
  unfold stepE
  cases hw : wantE ops o s.tm with
  | none => rw [hw] at he; cases he
  | some b =>
    rw [hw] at he
    simp only [Option.bind_some] at he ⊢
    cases b with
    | true =>
      simp only [if_true] at he ⊢
      cases hc : callOf P o s.ev with
      | none =>
        rw [hc] at he
        cases ho : opE P O o s.ev s.h with
        | none => rw [ho] at he; cases he
        | some r =>
          rw [ho] at he
          simp only [Option.bind_some] at he
          cases ha : askD (flagT F o.dst) r.1 q with
          | none => rw [ha] at he; cases he
          | some x =>
            rw [ha] at he
            simp only [Option.map_some] at he
            injection he with he
            injection he with e1 e2
            subst e1 e2
            obtain ⟨h1, h2⟩ := askD_ok ha hk
            rw [h1]
            exact ⟨rfl, h2⟩
      | some c =>
        rw [hc] at he
        simp only at he
        cases ho : callD Od c.1 c.2 s.h q with
        | none => rw [ho] at he; cases he
        | some r =>
          rw [ho] at he
          simp only [Option.map_some] at he
          injection he with he
          injection he with e1 e2
          subst e1 e2
          obtain ⟨h1, h2⟩ := callD_ok hO ho hk
          refine ⟨?_, h2⟩
          rw [callOf_spec hc, h1]
          rfl
    | false =>
      injection he with he
      injection he with e1 e2
      subst e1 e2
      exact ⟨rfl, hk⟩

def runD (P : Program) (O : Orc) (Od : DO) (F : Tmp → Bool) (ops : Array Oper) : List Oper → St → DS → Option (St × DS)
  | [], s, q => some (s, q)
  | o :: rest, s, q => (stepD P O Od F ops o s q).bind fun r => runD P O Od F ops rest r.1 r.2

theorem runD_ok {P : Program} {O : Orc} {Od : DO} (hO : LeD O Od) {F : Tmp → Bool} {ops : Array Oper} : ∀ (l : List Oper) (s s' : St) (q q' : DS), runD P O Od F ops l s q = some (s', q') → ok q'.2 → runE P O ops l s = some s' ∧ ok q.2
  | [], s, s', q, q', he, hk => by
    injection he with he
    injection he with e1 e2
    subst e1 e2
    exact ⟨rfl, hk⟩
  | o :: rest, s, s', q, q', he, hk => by
    unfold runD at he
    unfold runE
    cases h1 : stepD P O Od F ops o s q with
    | none => rw [h1] at he; cases he
    | some p =>
      rw [h1] at he
      simp only [Option.bind_some] at he
      obtain ⟨h2, h3⟩ := runD_ok hO rest p.1 s' p.2 q' he hk
      obtain ⟨h4, h5⟩ := stepD_ok hO h1 h3
      rw [h4]
      exact ⟨h2, h5⟩

def regD (P : Program) (O : Orc) (Od : DO) (F : Tmp → Bool) (ops : Array Oper) (draw : Bool) (s : St) (q : DS) : Option (St × DS) :=
  if draw then (regE P O ops true s).map (·, q) else runD P O Od F ops ops.toList s q

theorem regD_ok {P : Program} {O : Orc} {Od : DO} (hO : LeD O Od) {F : Tmp → Bool} {ops : Array Oper} {draw : Bool} {s s' : St} {q q' : DS} (he : regD P O Od F ops draw s q = some (s', q')) (hk : ok q'.2) : regE P O ops draw s = some s' ∧ ok q.2 := by
  unfold regD at he
  cases draw with
  | true =>
    simp only [if_true] at he
    cases h1 : regE P O ops true s with
    | none => rw [h1] at he; cases he
    | some r =>
      rw [h1] at he
      injection he with he
      injection he with e1 e2
      subst e1 e2
      exact ⟨rfl, hk⟩
  | false =>
    exact runD_ok hO _ _ _ _ _ he hk

abbrev LpD := (St → DS → Option ((Ex × St) × DS)) → St → DS → Option ((Ex × St) × DS)

def iterD : Nat → LpD
  | 0, _, _, _ => none
  | n + 1, f, s, q => (f s q).bind fun r => match r.1.1 with | .normal => iterD n f r.1.2 r.2 | _ => some r

theorem iterD_ok : ∀ (n : Nat) {f : St → Option (Ex × St)} {g : St → DS → Option ((Ex × St) × DS)} (hf : ∀ s q r q', g s q = some (r, q') → ok q'.2 → f s = some r ∧ ok q.2) (s : St) (q : DS) (r : Ex × St) (q' : DS), iterD n g s q = some (r, q') → ok q'.2 → iter n f s = some r ∧ ok q.2
  | 0, _, _, _, _, _, _, _, he, _ => by cases he
  | n + 1, f, g, hf, s, q, r, q', he, hk => by
    unfold iterD at he
    unfold iter
    cases h1 : g s q with
    | none => rw [h1] at he; cases he
    | some p =>
      obtain ⟨⟨ex, s1⟩, q1⟩ := p
      rw [h1] at he
      simp only [Option.bind_some] at he
      cases ex with
      | normal =>
        simp only at he
        obtain ⟨h2, h3⟩ := iterD_ok n hf s1 q1 r q' he hk
        obtain ⟨h4, h5⟩ := hf s q (.normal, s1) q1 h1 h3
        rw [h4]
        exact ⟨h2, h5⟩
      | exit i =>
        simp only at he
        injection he with he
        injection he with e1 e2
        subst e1 e2
        obtain ⟨h4, h5⟩ := hf s q _ _ h1 hk
        rw [h4]
        exact ⟨rfl, h5⟩
      | ret =>
        simp only at he
        injection he with he
        injection he with e1 e2
        subst e1 e2
        obtain ⟨h4, h5⟩ := hf s q _ _ h1 hk
        rw [h4]
        exact ⟨rfl, h5⟩

def flagO (F : Tmp → Bool) : Operand → Bool
  | .tmp t => F (t + 1000)
  | _ => false

def dC (P : Program) (O : Orc) (Od : DO) (F : Tmp → Bool) (L : LpD) : Code → St → DS → Option ((Ex × St) × DS)
  | .skip, s, q => some ((.normal, s), q)
  | .region _ ops draw, s, q => (regD P O Od F ops draw s q).map fun r => ((.normal, r.1), r.2)
  | .seq a b, s, q => (dC P O Od F L a s q).bind fun r => match r.1.1 with | .normal => dC P O Od F L b r.1.2 r.2 | _ => some r
  | .cond c a b, s, q => (askD (flagO F c) (s.ev c) q).bind fun x => (asB x.1).bind fun t => if t then dC P O Od F L a s x.2 else dC P O Od F L b s x.2
  | .block id a, s, q => (dC P O Od F L a s q).map fun r => ((if r.1.1 = .exit id then .normal else r.1.1, r.1.2), r.2)
  | .loop a, s, q => L (dC P O Od F L a) s q
  | .exit id, s, q => some ((.exit id, s), q)
  | .ret, s, q => some ((.ret, s), q)
  | _, _, _ => none

theorem dC_ok {P : Program} {O : Orc} {Od : DO} (hO : LeD O Od) {F : Tmp → Bool} {n : Nat} : ∀ (c : Code) (s : St) (q : DS) (r : Ex × St) (q' : DS), dC P O Od F (iterD n) c s q = some (r, q') → ok q'.2 → evC P O (iter n) c s = some r ∧ ok q.2 := by
  intro c
  induction c with
  | skip => intro s q r q' he hk; injection he with he; injection he with e1 e2; subst e1 e2; exact ⟨rfl, hk⟩
  | region id ops draw =>
    intro s q r q' he hk
    simp only [dC] at he
    simp only [evC]
    cases h1 : regD P O Od F ops draw s q with
    | none => rw [h1] at he; cases he
    | some p =>
      rw [h1] at he
      simp only [Option.map_some] at he
      injection he with he
      injection he with e1 e2
      subst e1 e2
      obtain ⟨h2, h3⟩ := regD_ok hO h1 hk
      rw [h2]
      exact ⟨rfl, h3⟩
  | seq a b iha ihb =>
    intro s q r q' he hk
    simp only [dC] at he
    simp only [evC]
    cases h1 : dC P O Od F (iterD n) a s q with
    | none => rw [h1] at he; cases he
    | some p =>
      obtain ⟨⟨ex, s1⟩, q1⟩ := p
      rw [h1] at he
      simp only [Option.bind_some] at he
      cases ex with
      | normal =>
        simp only at he
        obtain ⟨h2, h3⟩ := ihb _ _ _ _ he hk
        obtain ⟨h4, h5⟩ := iha _ _ _ _ h1 h3
        rw [h4]
        exact ⟨h2, h5⟩
      | exit i =>
        simp only at he
        injection he with he
        injection he with e1 e2
        subst e1 e2
        obtain ⟨h4, h5⟩ := iha _ _ _ _ h1 hk
        rw [h4]
        exact ⟨rfl, h5⟩
      | ret =>
        simp only at he
        injection he with he
        injection he with e1 e2
        subst e1 e2
        obtain ⟨h4, h5⟩ := iha _ _ _ _ h1 hk
        rw [h4]
        exact ⟨rfl, h5⟩
  | cond c a b iha ihb =>
    intro s q r q' he hk
    simp only [dC] at he
    simp only [evC]
    cases h0 : askD (flagO F c) (s.ev c) q with
    | none => rw [h0] at he; cases he
    | some x =>
      obtain ⟨v, q1⟩ := x
      rw [h0] at he
      simp only [Option.bind_some] at he
      cases h1 : asB v with
      | none => rw [h1] at he; cases he
      | some t =>
        rw [h1] at he
        simp only [Option.bind_some] at he ⊢
        have fin : ok q1.2 → s.ev c = v ∧ ok q.2 := fun hq => by
          obtain ⟨h2, h3⟩ := askD_ok h0 hq
          exact ⟨h2.symm, h3⟩
        cases t with
        | true =>
          simp only [if_true] at he
          obtain ⟨h3, h4⟩ := iha _ _ _ _ he hk
          obtain ⟨h5, h6⟩ := fin h4
          rw [h5, h1]
          exact ⟨h3, h6⟩
        | false =>
          simp only [Bool.false_eq_true, if_false] at he
          obtain ⟨h3, h4⟩ := ihb _ _ _ _ he hk
          obtain ⟨h5, h6⟩ := fin h4
          rw [h5, h1]
          exact ⟨h3, h6⟩
  | block id a iha =>
    intro s q r q' he hk
    simp only [dC] at he
    simp only [evC]
    cases h1 : dC P O Od F (iterD n) a s q with
    | none => rw [h1] at he; cases he
    | some p =>
      rw [h1] at he
      simp only [Option.map_some] at he
      injection he with he
      injection he with e1 e2
      subst e1 e2
      obtain ⟨h2, h3⟩ := iha _ _ _ _ h1 hk
      rw [h2]
      exact ⟨rfl, h3⟩
  | loop a iha =>
    intro s q r q' he hk
    exact iterD_ok n (fun s q r q' => iha s q r q') s q r q' he hk
  | exit id => intro s q r q' he hk; injection he with he; injection he with e1 e2; subst e1 e2; exact ⟨rfl, hk⟩
  | ret => intro s q r q' he hk; injection he with he; injection he with e1 e2; subst e1 e2; exact ⟨rfl, hk⟩
  | _ => intro s q r q' he hk; cases he

def dB (P : Program) (O : Orc) (Od : DO) (F : Tmp → Bool) (L : LpD) (c : Code) (n : Nat) (rs : List ResultVar) (args : List V) (h : H) (q : DS) : Option ((V × H) × DS) :=
  (dC P O Od F L c ⟨args ++ List.replicate (n - args.length) uv, h⟩ q).bind fun r =>
    match r.1.1 with
    | .exit _ => none
    | _ => ((resE P r.1.2 rs).bind fun v => gcE h.length v r.1.2.h).map (·, r.2)

def dF (P : Program) (O : Orc) (Od : DO) (F : FuncId → Tmp → Bool) (L : LpD) (K : FuncId) (args : List V) (h : H) (q : DS) : Option ((V × H) × DS) :=
  (P.funcs[K]?).bind fun f => f.body.bind fun c => if f.name == "runtime.NumGoroutine" then none else dB P O Od (F K) L c f.ntmps f.results.toList args h q

def dN (P : Program) (X : Orc) (F : FuncId → Tmp → Bool) : Nat → DO
  | 0 => fun K args h q => (X K args h).map (·, q)
  | n + 1 => fun K args h q => match X K args h with | some r => some (r, q) | none => dF P (evN P X n) (dN P X F n) F (iterD n) K args h q

theorem dB_ok {P : Program} {O : Orc} {Od : DO} (hO : LeD O Od) {F : Tmp → Bool} {n m : Nat} {c : Code} {rs : List ResultVar} {args : List V} {h : H} {q q' : DS} {r : V × H} (he : dB P O Od F (iterD n) c m rs args h q = some (r, q')) (hk : ok q'.2) : evB P O (iter n) c m rs args h = some r ∧ ok q.2 := by
  unfold dB at he
  unfold evB
  cases h1 : dC P O Od F (iterD n) c ⟨args ++ List.replicate (m - args.length) uv, h⟩ q with
  | none => rw [h1] at he; cases he
  | some p =>
    obtain ⟨⟨ex, s1⟩, q1⟩ := p
    rw [h1] at he
    simp only [Option.bind_some] at he
    have key : ∀ {x : Option (V × H)}, x.map (·, q1) = some (r, q') → x = some r ∧ q1 = q' := fun {x} hx => by
      cases x with
      | none => cases hx
      | some y =>
        injection hx with hx
        injection hx with e1 e2
        exact ⟨by rw [e1], e2⟩
    cases ex with
    | exit i => cases he
    | normal =>
      simp only at he
      obtain ⟨h2, h3⟩ := key he
      subst h3
      obtain ⟨h4, h5⟩ := dC_ok hO c _ _ _ _ h1 hk
      rw [h4]
      exact ⟨h2, h5⟩
    | ret =>
      simp only at he
      obtain ⟨h2, h3⟩ := key he
      subst h3
      obtain ⟨h4, h5⟩ := dC_ok hO c _ _ _ _ h1 hk
      rw [h4]
      exact ⟨h2, h5⟩

theorem dN_ok {P : Program} {X : Orc} {F : FuncId → Tmp → Bool} : ∀ n, LeD (evN P X n) (dN P X F n)
  | 0 => fun K args h q r q' he hk => by
    simp only [dN] at he
    cases h1 : X K args h with
    | none => rw [h1] at he; cases he
    | some y =>
      rw [h1] at he
      injection he with he
      injection he with e1 e2
      subst e1 e2
      exact ⟨h1, hk⟩
  | n + 1 => fun K args h q r q' he hk => by
    simp only [dN] at he
    simp only [evN]
    cases h1 : X K args h with
    | some y =>
      rw [h1] at he
      injection he with he
      injection he with e1 e2
      subst e1 e2
      exact ⟨rfl, hk⟩
    | none =>
      rw [h1] at he
      simp only at he ⊢
      unfold dF at he
      unfold evF
      cases hf : P.funcs[K]? with
      | none => rw [hf] at he; cases he
      | some f =>
        rw [hf] at he
        simp only [Option.bind_some] at he ⊢
        cases hb : f.body with
        | none => rw [hb] at he; cases he
        | some c =>
          rw [hb] at he
          simp only [Option.bind_some] at he ⊢
          split at he
          · cases he
          · rename_i hn
            rw [if_neg hn]
            exact dB_ok (dN_ok n) he hk

/-- The answer, where the conditions hold as given. -/
theorem dN_run {P : Program} {X : Orc} {F : FuncId → Tmp → Bool} {n : Nat} {K : FuncId} {args : List V} {h : H} {ds : List Value} {r : V × H} {rec : List (Value × Value)} (he : dN P X F n K args h (ds, []) = some (r, [], rec)) (hk : ok rec) : evN P X n K args h = some r := (dN_ok n K args h _ r _ he hk).1

end Go.Ab
