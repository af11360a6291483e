/-
  A logic over the kit's walk: what a frame's slots hold, what memory is known for good (K) and what is owned (M). Nothing here hangs on a program.
-/
import Derived.WalkKit
namespace Go.HL
open Go

/-! ## What is known of memory -/

abbrev Heap := Nat → Option Obj
def Heap.le (H H' : Heap) : Prop := ∀ b o, H b = some o → H' b = some o
theorem Heap.le.refl (H : Heap) : Heap.le H H := fun _ _ h => h
theorem Heap.le.trans {H H' H'' : Heap} (h : Heap.le H H') (h' : Heap.le H' H'') : Heap.le H H'' := fun b o x => h' b o (h b o x)

/-- A fact about memory that never turns again. -/
structure KP where
  p : Heap → Prop
  mono : ∀ H H', Heap.le H H' → p H → p H'
/-- Something that is owned: the blocks that it is made of, whole. -/
structure Own where
  p : Heap → List (Nat × Obj) → Prop
  mono : ∀ H H' l, Heap.le H H' → p H l → p H' l
structure Ctx where
  K : List KP
  M : List Own

def Agree (H : Heap) (l : List (Nat × Obj)) (w : World) : Prop :=
  (∀ b o, H b = some o → w.heap[b]? = some o) ∧ (∀ x ∈ l, w.heap[x.1]? = some x.2 ∧ H x.1 = none) ∧ (l.map (·.1)).Nodup

inductive Holds (H : Heap) : List Own → List (Nat × Obj) → Prop
  | nil : Holds H [] []
  | cons {o : Own} {M : List Own} {l1 l2 : List (Nat × Obj)} : o.p H l1 → Holds H M l2 → Holds H (o :: M) (l1 ++ l2)

def Same0 (w0 w : World) : Prop := w.os = w0.os ∧ w.tape = w0.tape ∧ w.output = w0.output

def St (s : Ctx) (w0 w : World) : Prop :=
  ∃ H l, (∀ k ∈ s.K, k.p H) ∧ Holds H s.M l ∧ Agree H l w ∧ Same0 w0 w

theorem Holds.mono {H H' : Heap} (hle : Heap.le H H') : ∀ {M l}, Holds H M l → Holds H' M l := by
  intro M l h
  induction h with
  | nil => exact .nil
  | cons h _ ih => exact .cons (Own.mono _ _ _ _ hle h) ih

theorem Holds.perm {H : Heap} {M M' : List Own} (hp : M.Perm M') : ∀ {l}, Holds H M l → ∃ l', Holds H M' l' ∧ l.Perm l' := by
  induction hp with
  | nil => intro l h; exact ⟨l, h, .refl _⟩
  | cons x _ ih =>
    intro l h
    cases h with
    | cons h1 h2 =>
      obtain ⟨l', h', hp⟩ := ih h2
      exact ⟨_, .cons h1 h', hp.append_left _⟩
  | swap x y t =>
    intro l h
    cases h with
    | cons h1 h2 =>
      cases h2 with
      | cons h3 h4 =>
        refine ⟨_, .cons h3 (.cons h1 h4), ?_⟩
        rw [← List.append_assoc, ← List.append_assoc]
        exact (List.perm_append_comm).append_right _
  | trans _ _ ih1 ih2 =>
    intro l h
    obtain ⟨l1, h1, p1⟩ := ih1 h
    obtain ⟨l2, h2, p2⟩ := ih2 h1
    exact ⟨l2, h2, p1.trans p2⟩

theorem Agree.perm {H : Heap} {l l' : List (Nat × Obj)} {w : World} (hp : l.Perm l') (h : Agree H l w) : Agree H l' w :=
  ⟨h.1, fun x hx => h.2.1 x (hp.mem_iff.2 hx), (hp.map _).nodup_iff.1 h.2.2⟩

theorem Holds.append {H : Heap} {M2 : List Own} {l2 : List (Nat × Obj)} (h2 : Holds H M2 l2) : ∀ {M1 l1}, Holds H M1 l1 → Holds H (M1 ++ M2) (l1 ++ l2) := by
  intro M1 l1 h
  induction h with
  | nil => simpa using h2
  | cons h _ ih => rw [List.append_assoc, List.cons_append]; exact .cons h ih

theorem Holds.split {H : Heap} {M2 : List Own} : ∀ {M1 : List Own} {l}, Holds H (M1 ++ M2) l → ∃ l1 l2, l = l1 ++ l2 ∧ Holds H M1 l1 ∧ Holds H M2 l2 := by
  intro M1
  induction M1 with
  | nil => intro l h; exact ⟨[], l, rfl, .nil, h⟩
  | cons o M1 ih =>
    intro l h
    cases h with
    | cons h1 h2 =>
      obtain ⟨a, b, rfl, ha, hb⟩ := ih h2
      exact ⟨_, b, by rw [List.append_assoc], .cons h1 ha, hb⟩

/-! ## Taking one thing out of what is owned -/

def Sel (o : Own) (M R : List Own) : Prop := M.Perm (o :: R)
theorem Sel.head {o : Own} {M : List Own} : Sel o (o :: M) M := .refl _
theorem Sel.tail {o x : Own} {M R : List Own} (h : Sel o M R) : Sel o (x :: M) (x :: R) := (h.cons x).trans (.swap _ _ _)

theorem St.focus {K : List KP} {M R : List Own} {o : Own} {w0 w : World} (hs : Sel o M R) (h : St ⟨K, M⟩ w0 w) :
    ∃ H l1 l2, (∀ k ∈ K, k.p H) ∧ o.p H l1 ∧ Holds H R l2 ∧ Agree H (l1 ++ l2) w ∧ Same0 w0 w := by
  obtain ⟨H, l, hk, hm, ha, h0⟩ := h
  obtain ⟨l', hm', hp⟩ := Holds.perm hs hm
  cases hm' with
  | cons h1 h2 => exact ⟨H, _, _, hk, h1, h2, ha.perm hp, h0⟩

/-- What is known is less. -/
def KSub (K1 K : List KP) : Prop := ∀ k ∈ K1, k ∈ K
def MSub (M1 M : List Own) : Prop := ∃ D, M.Perm (M1 ++ D)
structure Wk (s s1 : Ctx) : Prop where
  K : KSub s1.K s.K
  M : MSub s1.M s.M
theorem KSub.refl (K : List KP) : KSub K K := fun _ h => h
theorem KSub.nil (K : List KP) : KSub [] K := fun _ h => by cases h
theorem KSub.cons {k : KP} {K1 K : List KP} (h : k ∈ K) (h1 : KSub K1 K) : KSub (k :: K1) K := fun x hx => by
  cases hx with
  | head => exact h
  | tail _ hx => exact h1 x hx
theorem KSub.drop {k : KP} {K1 K : List KP} (h1 : KSub K1 K) : KSub K1 (k :: K) := fun x hx => .tail _ (h1 x hx)
theorem MSub.refl (M : List Own) : MSub M M := ⟨[], by simp⟩
theorem MSub.nil (M : List Own) : MSub [] M := ⟨M, by simp⟩
theorem MSub.cons {o : Own} {M1 M R : List Own} (hs : Sel o M R) (h : MSub M1 R) : MSub (o :: M1) M := by
  obtain ⟨D, hD⟩ := h
  exact ⟨D, hs.trans (hD.cons o)⟩
theorem MSub.drop {x : Own} {M1 M : List Own} (h : MSub M1 M) : MSub M1 (x :: M) := by
  obtain ⟨D, hD⟩ := h
  refine ⟨x :: D, (hD.cons x).trans ?_⟩
  exact (List.perm_middle).symm
theorem Wk.refl (s : Ctx) : Wk s s := ⟨KSub.refl _, MSub.refl _⟩
theorem KSub.trans {A B C : List KP} (h : KSub A B) (h' : KSub B C) : KSub A C := fun k hk => h' k (h k hk)
theorem MSub.trans {A B C : List Own} (h : MSub A B) (h' : MSub B C) : MSub A C := by
  obtain ⟨D, hD⟩ := h
  obtain ⟨D', hD'⟩ := h'
  exact ⟨D ++ D', hD'.trans (by rw [← List.append_assoc]; exact hD.append_right _)⟩
theorem MSub.append {A B : List Own} (h : MSub A B) (F : List Own) : MSub (A ++ F) (B ++ F) := by
  obtain ⟨D, hD⟩ := h
  refine ⟨D, (hD.append_right F).trans ?_⟩
  rw [List.append_assoc, List.append_assoc]
  exact List.Perm.append_left A List.perm_append_comm

theorem Holds.sub {H : Heap} {M M1 : List Own} {l : List (Nat × Obj)} (h : Holds H M l) (hs : MSub M1 M) : ∃ l1 l2, Holds H M1 l1 ∧ l.Perm (l1 ++ l2) := by
  obtain ⟨D, hD⟩ := hs
  obtain ⟨l', h', hp⟩ := h.perm hD
  obtain ⟨a, b, rfl, ha, hb⟩ := h'.split
  exact ⟨a, b, ha, hp⟩

theorem Agree.left {H : Heap} {l1 l2 : List (Nat × Obj)} {w : World} (h : Agree H (l1 ++ l2) w) : Agree H l1 w :=
  ⟨h.1, fun x hx => h.2.1 x (List.mem_append_left _ hx), by
    have := h.2.2
    rw [List.map_append] at this
    exact (List.nodup_append.1 this).1⟩

theorem St.weak {s s1 : Ctx} {w0 w : World} (h : St s w0 w) (hw : Wk s s1) : St s1 w0 w := by
  obtain ⟨H, l, hk, hm, ha, h0⟩ := h
  obtain ⟨l1, l2, hm1, hp⟩ := hm.sub hw.M
  exact ⟨H, l1, fun k hk' => hk k (hw.K k hk'), hm1, (ha.perm hp).left, h0⟩

/-! ## The frame -/

abbrev Env := List (Nat × Value)
def lk : Env → Nat → Option Value
  | [], _ => none
  | (d, v) :: E, n => bif Nat.beq n d then some v else lk E n

def Ev (E : Env) : Operand → Option Value
  | .tmp t => lk E t
  | .const v => some v
  | .global g => some (.pointer (some ⟨g, 0, none⟩))
  | .func f => some (.func (.func f) #[] #[])

/-- What a frame and a world are, as far as it is known. -/
structure Sat (N : Nat) (w0 : World) (E : Env) (s : Ctx) (a : Act) (w : World) : Prop where
  defers : a.defers = []
  size : a.tmps.size = N
  env : ∀ n v, lk E n = some v → a.tmps.getD n undef = v
  st : St s w0 w

theorem Sat.ev {N : Nat} {w0 : World} {E : Env} {s : Ctx} {a : Act} {w : World} (h : Sat N w0 E s a w) {x : Operand} {v : Value} (hx : Ev E x = some v) : a.eval x = v := by
  cases x with
  | tmp t => exact h.env _ _ hx
  | const u => simpa [Ev, Act.eval] using hx
  | global g => simpa [Ev, Act.eval] using hx
  | func f => simpa [Ev, Act.eval] using hx

theorem getD_set (t : Array Value) (d n : Nat) (v : Value) (hd : d < t.size) : (t.setIfInBounds d v).getD n undef = if n = d then v else t.getD n undef := by
  simp only [Array.getD_eq_getD_getElem?, Array.getElem?_setIfInBounds]
  by_cases h : n = d
  · subst h; simp [hd]
  · simp [h, Ne.symm h]

theorem Sat.put {N : Nat} {w0 : World} {E : Env} {s s' : Ctx} {a : Act} {w w' : World} (h : Sat N w0 E s a w) (hs : St s' w0 w') {d : Nat} (hd : Nat.blt d N = true) (v : Value) :
    Sat N w0 ((d, v) :: E) s' (a.put (some d) v) w' := by
  have hd' : d < a.tmps.size := by rw [h.size]; simpa [Nat.blt_eq] using hd
  refine ⟨h.defers, by simp [Act.put, h.size], ?_, hs⟩
  intro n u hn
  simp only [lk] at hn
  show (a.tmps.setIfInBounds d v).getD n undef = u
  rw [getD_set _ _ _ _ hd']
  cases hb : Nat.beq n d with
  | true =>
    rw [hb] at hn
    have : n = d := Nat.eq_of_beq_eq_true hb
    rw [if_pos this]
    simpa using hn
  | false =>
    rw [hb] at hn
    have : n ≠ d := Nat.ne_of_beq_eq_false hb
    rw [if_neg this]
    exact h.env _ _ hn

theorem Sat.put_none {N : Nat} {w0 : World} {E : Env} {s s' : Ctx} {a : Act} {w w' : World} (h : Sat N w0 E s a w) (hs : St s' w0 w') (v : Value) :
    Sat N w0 E s' (a.put none v) w' := ⟨h.defers, h.size, h.env, hs⟩

/-- The slots of E1 hold in E what E1 says. -/
def ESub : Env → Env → Prop
  | [], _ => True
  | (n, v) :: r, E => lk E n = some v ∧ ESub r E

theorem ESub.lk {E1 E : Env} (h : ESub E1 E) : ∀ n v, HL.lk E1 n = some v → HL.lk E n = some v := by
  induction E1 with
  | nil => intro n v hn; cases hn
  | cons x r ih =>
    obtain ⟨d, u⟩ := x
    intro n v hn
    simp only [HL.lk] at hn
    cases hb : Nat.beq n d with
    | true =>
      rw [hb] at hn
      have : n = d := Nat.eq_of_beq_eq_true hb
      subst this
      have : u = v := by simpa using hn
      subst this
      exact h.1
    | false =>
      rw [hb] at hn
      exact ih h.2 n v hn

theorem Sat.weak {N : Nat} {w0 : World} {E E1 : Env} {s s1 : Ctx} {a : Act} {w : World} (h : Sat N w0 E s a w) (hE : ESub E1 E) (hs : Wk s s1) : Sat N w0 E1 s1 a w :=
  ⟨h.defers, h.size, fun n v hn => h.env n v (hE.lk n v hn), h.st.weak hs⟩

/-! ## The judgement on code -/

abbrev Post := Exit → Env → Ctx → Prop

/-- An end of a piece of code, told of what is known. -/
def lift (N : Nat) (w0 : World) (Q : Post) : Exit → Act → World → Prop :=
  fun e a w => ∃ E s, Sat N w0 E s a w ∧ Q e E s

def W (P : Program) (N : Nat) (c : Code) (Q : Post) (E : Env) (s : Ctx) : Prop :=
  ∀ w0 a w, Sat N w0 E s a w → c.wp P (lift N w0 Q) a w

def QThen (K : Env → Ctx → Prop) (Q : Post) : Post
  | .normal, E, s => K E s
  | e, E, s => Q e E s
def QBlock (id : Nat) (Q : Post) : Post
  | .exit id', E, s => bif Nat.beq id' id then Q .normal E s else Q (.exit id') E s
  | e, E, s => Q e E s

section rules
variable {P : Program} {N : Nat} {Q : Post} {E : Env} {s : Ctx}

theorem W.mono {c : Code} {Q' : Post} (h : W P N c Q E s) (hq : ∀ e E s, Q e E s → Q' e E s) : W P N c Q' E s :=
  fun w0 a w hs => wp_mono (h w0 a w hs) fun _ _ _ ⟨E, s, h1, h2⟩ => ⟨E, s, h1, hq _ _ _ h2⟩

theorem W.weak {c : Code} {E1 : Env} {s1 : Ctx} (hE : ESub E1 E) (hs : Wk s s1) (h : W P N c Q E1 s1) : W P N c Q E s :=
  fun w0 a w hst => h w0 a w (hst.weak hE hs)

theorem W.skip (h : Q .normal E s) : W P N .skip Q E s := fun _ _ _ hs => wp_skip ⟨E, s, hs, h⟩
theorem W.label {l : Nat} (h : Q .normal E s) : W P N (.label l) Q E s := fun _ _ _ hs => wp_label ⟨E, s, hs, h⟩
theorem W.exit {id : Nat} (h : Q (.exit id) E s) : W P N (.exit id) Q E s := fun _ _ _ hs => wp_exit ⟨E, s, hs, h⟩
theorem W.ret (h : Q .ret E s) : W P N .ret Q E s := fun _ _ _ hs => wp_ret ⟨E, s, hs, h⟩

theorem W.seq {x y : Code} (h : W P N x (QThen (W P N y Q) Q) E s) : W P N (.seq x y) Q E s := by
  intro w0 a w hs
  refine wp_seq (wp_mono (h w0 a w hs) ?_)
  rintro e a' w' ⟨E', s', hs', hq⟩
  cases e with
  | normal => exact hq w0 a' w' hs'
  | _ => exact ⟨E', s', hs', hq⟩

/-- The rest is put behind a letter: what stands in the goal stays small. -/
theorem W.seq_k {x y : Code} (h : ∀ K : Env → Ctx → Prop, (∀ E s, W P N y Q E s → K E s) → W P N x (QThen K Q) E s) : W P N (.seq x y) Q E s :=
  W.seq (h _ fun _ _ h => h)

/-- The two parts meet at what is said between them. -/
theorem W.seq_mid {x y : Code} (Mid : Env → Ctx → Prop) (h : W P N x (QThen Mid Q) E s) (h2 : ∀ E s, Mid E s → W P N y Q E s) : W P N (.seq x y) Q E s :=
  W.seq (h.mono fun e E s hq => by
    cases e with
    | normal => exact h2 E s hq
    | _ => exact hq)

theorem W.block {id : Nat} {c : Code} (h : W P N c (QBlock id Q) E s) : W P N (.block id c) Q E s := by
  intro w0 a w hs
  refine wp_block (wp_mono (h w0 a w hs) ?_)
  rintro e a' w' ⟨E', s', hs', hq⟩
  cases e with
  | exit id' =>
    simp only [QBlock] at hq
    cases hb : Nat.beq id' id with
    | true =>
      have he : id' = id := Nat.eq_of_beq_eq_true hb
      subst he
      rw [hb] at hq
      show if id' = id' then _ else _
      rw [if_pos rfl]
      exact ⟨E', s', hs', hq⟩
    | false =>
      have he : id' ≠ id := Nat.ne_of_beq_eq_false hb
      rw [hb] at hq
      show if id' = id then _ else _
      rw [if_neg he]
      exact ⟨E', s', hs', hq⟩
  | _ => exact ⟨E', s', hs', hq⟩

theorem W.cond {c : Operand} {x y : Code} {b : Bool} (hc : Ev E c = some (.bool b)) (ht : b = true → W P N x Q E s) (hf : b = false → W P N y Q E s) : W P N (.cond c x y) Q E s := by
  intro w0 a w hs
  refine wp_cond_split (hs.ev hc) (fun h => ht h w0 a w hs) (fun h => hf h w0 a w hs)

theorem W.cond_t {c : Operand} {x y : Code} (hc : Ev E c = some (.bool true)) (h : W P N x Q E s) : W P N (.cond c x y) Q E s :=
  W.cond hc (fun _ => h) (fun h => by cases h)
theorem W.cond_f {c : Operand} {x y : Code} (hc : Ev E c = some (.bool false)) (h : W P N y Q E s) : W P N (.cond c x y) Q E s :=
  W.cond hc (fun h => by cases h) (fun _ => h)

/-- A loop: what holds at the head of each round, told by an index. -/
theorem W.loop {c : Code} {ι : Type} (Ei : ι → Env) (si : ι → Ctx) (φ : ι → Prop) (μ : ι → Nat) (i0 : ι) (h0 : φ i0) (hE : ESub (Ei i0) E) (hs : Wk s (si i0))
    (round : ∀ i, φ i → W P N c (QThen (fun E' s' => ∃ j, φ j ∧ μ j < μ i ∧ ESub (Ei j) E' ∧ Wk s' (si j)) Q) (Ei i) (si i)) : W P N (.loop c) Q E s := by
  intro w0 a w hst b k cs
  have key : ∀ n i, μ i = n → φ i → ∀ a w, Sat N w0 (Ei i) (si i) a w →
      ∃ e a' w', lift N w0 Q e a' w' ∧ Arrives P (lone (b.at a (.code c :: .inLoop c :: k)) cs w) b k cs e a' w' := by
    intro n
    induction n using Nat.strongRecOn with
    | _ n ih =>
      intro i hn hφ a w hst
      obtain ⟨e, a₁, w₁, ⟨E', s', hs', hq⟩, harr⟩ := round i hφ w0 a w hst b (.inLoop c :: k) cs
      cases e with
      | normal =>
        obtain ⟨j, hj, hlt, hE', hs''⟩ := hq
        obtain ⟨e₂, a₂, w₂, hq₂, harr₂⟩ := ih (μ j) (hn ▸ hlt) j rfl hj a₁ w₁ (hs'.weak hE' hs'')
        exact ⟨e₂, a₂, w₂, hq₂, .of_steps (Steps.trans harr (.one step_inLoop)) harr₂⟩
      | exit id => exact ⟨_, a₁, w₁, ⟨E', s', hs', hq⟩, .pass (x := .inLoop c) rfl (fun _ _ => .inl (by simp)) harr⟩
      | goto l => exact ⟨_, a₁, w₁, ⟨E', s', hs', hq⟩, .pass (x := .inLoop c) rfl (fun _ _ => .inl (by simp)) harr⟩
      | ret => exact ⟨_, a₁, w₁, ⟨E', s', hs', hq⟩, .pass (x := .inLoop c) rfl (fun _ _ => .inl (by simp)) harr⟩
      | panic ch => exact ⟨_, a₁, w₁, ⟨E', s', hs', hq⟩, .pass (x := .inLoop c) rfl (fun _ _ => .inl (by simp)) harr⟩
      | outgrown => exact ⟨_, a₁, w₁, ⟨E', s', hs', hq⟩, .pass (x := .inLoop c) rfl (fun _ _ => .inl (by simp)) harr⟩
  obtain ⟨e, a', w', hq, harr⟩ := key _ i0 rfl h0 a w (hst.weak hE hs)
  exact ⟨e, a', w', hq, .of_steps (.one step_loop) harr⟩
end rules
end Go.HL
