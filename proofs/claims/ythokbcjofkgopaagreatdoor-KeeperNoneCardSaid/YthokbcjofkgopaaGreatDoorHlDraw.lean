/-
  A region whose order Go leaves open: the operations are told in the order of the text, and each is shown to be the same wherever it may come.
-/
import Derived.Test.YthokbcjofkgopaaGreatDoorHlCall
import Derived.Orders
namespace Go.HL
open Go

def deps (o : Oper) : List Nat := (o.after.toList.filter fun e => Region.binds .any e).map (·.on)

/-- Each name of an op's elders is a name that it waits for, at once or through another. -/
def okA (ops : Array Oper) (A : List (List Nat)) : Bool :=
  (List.range ops.size).all fun i => match ops[i]? with
    | some o => (deps o).all (fun j => Nat.blt j i) && (A.getD i []).all fun x => (deps o).elem x || (deps o).any fun j => (A.getD j []).elem x
    | none => true

def nodupB : List Nat → Bool
  | [] => true
  | x :: r => !r.elem x && nodupB r

def okE (ops : Array Oper) (Ek : Env) (Wn : List (Nat × Nat × Value)) : Bool :=
  let ds := ops.toList.filterMap (·.dst)
  nodupB ds && Ek.all (fun x => !ds.elem x.1) && Wn.all fun x => match (ops[x.1]?).bind (·.dst) with | some d => Nat.beq d x.2.1 | none => false

section
variable (P : Program) (N : Nat) (ops : Array Oper) (A : List (List Nat)) (Ek : Env) (Wn : List (Nat × Nat × Value)) (Q : Post)

abbrev isL (listed : Array Bool) (i : Nat) : Prop := listed.getD i true = true

/-- What is known while the region runs. -/
structure DSI (w0 : World) (V : List (Nat × Nat × Value)) (s : Ctx) (dn pend : List Nat) (listed : Array Bool) (a : Act) (w : World) : Prop where
  only : ∀ i, i < ops.size → isL listed i → (∃ x ∈ V, x.1 = i) ∨ i ∈ dn
  size : listed.size = ops.size
  closed : ∀ i o, ops[i]? = some o → isL listed i → ∀ e ∈ deps o, isL listed e
  dn : ∀ e ∈ dn, e < ops.size ∧ isL listed e
  pend : ∀ e ∈ pend, e < ops.size ∧ ¬ isL listed e
  defers : a.defers = []
  tsize : a.tmps.size = N
  ek : ∀ n v, lk Ek n = some v → a.tmps.getD n undef = v
  wn : ∀ x ∈ Wn, ¬ isL listed x.1 → a.tmps.getD x.2.1 undef = x.2.2
  v : ∀ x ∈ V, (ops[x.1]?).bind (·.dst) = some x.2.1 ∧ (isL listed x.1 → a.tmps.getD x.2.1 undef = x.2.2)
  vnd : nodupB (V.map (·.1)) = true
  st : St s w0 w

/-- A frame's slots that op i may lean on. -/
def EOk (V : List (Nat × Nat × Value)) (i : Nat) (o : Oper) (E : Env) : Prop :=
  ∀ n u, lk E n = some u → (∃ x ∈ V, x.1 ∈ deps o ∧ x.2 = (n, u)) ∨ (∃ x ∈ Wn, (∃ o', ops[x.1]? = some o' ∧ i ∈ deps o') ∧ x.2 = (n, u)) ∨ lk Ek n = some u

def Ei (V : List (Nat × Nat × Value)) (i : Nat) (o : Oper) : Env :=
  (V.filter fun x => (deps o).elem x.1).map (·.2) ++ ((Wn.filter fun x => match ops[x.1]? with | some o' => (deps o').elem i | none => false).map (·.2) ++ Ek)

/-- What a quiet op comes to, its guard asked. -/
def QG (o : Oper) (E : Env) (s : Ctx) (v : Value) : Prop :=
  match o.guard with
  | none => Quiet P N o.op o.type E s v
  | some (j, b) => ∃ dj c, (ops[j]?).bind (·.dst) = some dj ∧ lk E dj = some (.bool c) ∧ (bif c == b then Quiet P N o.op o.type E s v else v = undef)

def cover (L : List (Nat × Nat × Value)) (dn pend : List Nat) : Bool :=
  (List.range ops.size).all fun i => dn.elem i || dn.any (fun e => (A.getD e []).elem i) || pend.elem i || pend.any (fun e => (A.getD i []).elem e) || L.any (fun x => Nat.beq x.1 i)

def cnt (listed : Array Bool) : Nat := (listed.toList.filter fun b => !b).length

def DStage (V : List (Nat × Nat × Value)) (s : Ctx) (dn pend : List Nat) : Prop :=
  ∀ w0 fuel listed a w, DSI N ops Ek Wn w0 V s dn pend listed a w → cnt listed ≤ fuel → wpAny P .any ops (lift N w0 Q) fuel listed a w

def LOk (V L : List (Nat × Nat × Value)) (s : Ctx) : Prop :=
  ∀ x ∈ L, x ∈ V ∧ ∃ o E, ops[x.1]? = some o ∧ o.dst = some x.2.1 ∧ EOk ops Ek Wn V x.1 o E ∧ QG P N ops o E s x.2.2

def D (V L : List (Nat × Nat × Value)) (s : Ctx) (dn pend : List Nat) : Prop := LOk P N ops Ek Wn V L s → DStage P N ops Ek Wn Q V s dn pend
end

section
variable {P : Program} {N : Nat} {ops : Array Oper} {A : List (List Nat)} {Ek : Env} {Wn : List (Nat × Nat × Value)} {Q : Post} {V L : List (Nat × Nat × Value)} {s : Ctx} {dn pend : List Nat}

theorem lk_append {E E' : Env} {n : Nat} {u : Value} (h : lk (E ++ E') n = some u) : (n, u) ∈ E ∨ lk E' n = some u := by
  induction E with
  | nil => exact .inr h
  | cons x E ih =>
    obtain ⟨d, v⟩ := x
    simp only [List.cons_append, lk] at h
    cases hb : Nat.beq n d with
    | true =>
      rw [hb] at h
      have he : n = d := Nat.eq_of_beq_eq_true hb
      have : v = u := by simpa using h
      subst he; subst this
      exact .inl (.head _)
    | false =>
      rw [hb] at h
      rcases ih h with h | h
      · exact .inl (.tail _ h)
      · exact .inr h

theorem EOk_Ei (i : Nat) (o : Oper) : EOk ops Ek Wn V i o (Ei ops Ek Wn V i o) := by
  intro n u h
  rcases lk_append h with h | h
  · obtain ⟨x, hx, he⟩ := List.mem_map.1 h
    obtain ⟨h1, h2⟩ := List.mem_filter.1 hx
    exact .inl ⟨x, h1, by simpa using h2, he⟩
  · rcases lk_append h with h | h
    · obtain ⟨x, hx, he⟩ := List.mem_map.1 h
      obtain ⟨h1, h2⟩ := List.mem_filter.1 hx
      refine .inr (.inl ⟨x, h1, ?_, he⟩)
      cases ho : ops[x.1]? with
      | none => rw [ho] at h2; simp at h2
      | some o' => rw [ho] at h2; exact ⟨o', rfl, by simpa using h2⟩
    · exact .inr (.inr h)

theorem EOk.more {i : Nat} {o : Oper} {E : Env} {y : Nat × Nat × Value} (h : EOk ops Ek Wn V i o E) : EOk ops Ek Wn (y :: V) i o E := by
  intro n u hn
  rcases h n u hn with ⟨x, hx, h1, h2⟩ | h | h
  · exact .inl ⟨x, .tail _ hx, h1, h2⟩
  · exact .inr (.inl h)
  · exact .inr (.inr h)

theorem DSI.sat {w0 : World} {listed : Array Bool} {a : Act} {w : World} (h : DSI N ops Ek Wn w0 V s dn pend listed a w) {i : Nat} {o : Oper} {E : Env}
    (hi : ¬ isL listed i) (hd : ∀ e ∈ deps o, isL listed e) (hE : EOk ops Ek Wn V i o E) : Sat N w0 E s a w := by
  refine ⟨h.defers, h.tsize, fun n u hn => ?_, h.st⟩
  rcases hE n u hn with ⟨x, hx, h1, h2⟩ | ⟨x, hx, ⟨o', ho', hi'⟩, h2⟩ | h'
  · have := (h.v x hx).2 (hd _ h1)
    rw [h2] at this; exact this
  · have hnl : ¬ isL listed x.1 := fun hl => hi (h.closed _ _ ho' hl _ hi')
    have := h.wn x hx hnl
    rw [h2] at this; exact this
  · exact h.ek n u h'

theorem isL_set {listed : Array Bool} {i j : Nat} : isL (listed.setIfInBounds i true) j ↔ isL listed j ∨ j = i := by
  unfold isL
  simp only [Array.getD_eq_getD_getElem?, Array.getElem?_setIfInBounds]
  by_cases h : i = j
  · subst h
    by_cases hs : i < listed.size
    · simp [hs]
    · simp [hs]
  · simp [h, Ne.symm h]

theorem cnt_list : ∀ (l : List Bool) (i : Nat), l[i]? = some false → ((l.set i true).filter fun b => !b).length + 1 = (l.filter fun b => !b).length
  | [], _, h => by simp at h
  | b :: l, 0, h => by
    have : b = false := by simpa using h
    subst this
    simp
  | b :: l, i + 1, h => by
    have ih := cnt_list l i (by simpa using h)
    cases b <;> simp_all

theorem cnt_set {listed : Array Bool} {i : Nat} (h : ¬ isL listed i) : cnt (listed.setIfInBounds i true) + 1 = cnt listed := by
  unfold cnt
  rw [Array.toList_setIfInBounds]
  refine cnt_list _ _ ?_
  unfold isL at h
  simp only [Array.getD_eq_getD_getElem?] at h
  cases hc : listed[i]? with
  | none => rw [hc] at h; simp at h
  | some b => rw [hc] at h; simp at h; subst h; simpa using hc

theorem cnt_zero {listed : Array Bool} (h : cnt listed = 0) (i : Nat) : isL listed i := by
  unfold isL
  simp only [Array.getD_eq_getD_getElem?]
  cases hc : listed[i]? with
  | none => rfl
  | some b =>
    cases b with
    | true => rfl
    | false =>
      have : false ∈ listed.toList.filter fun b => !b := List.mem_filter.2 ⟨List.mem_of_getElem? (by simpa using hc), rfl⟩
      rw [List.length_eq_zero_iff.1 h] at this
      cases this

theorem mem_ready {listed : Array Bool} {i : Nat} (h : i ∈ Region.ready .any ops listed) : ∃ o, ops[i]? = some o ∧ ¬ isL listed i ∧ ∀ e ∈ deps o, isL listed e := by
  unfold Region.ready at h
  obtain ⟨h1, h2⟩ := List.mem_filter.1 h
  have hi : i < ops.size := List.mem_range.1 h1
  rw [Array.getElem?_eq_getElem hi] at h2 ⊢
  simp only [Option.map_some, Option.getD_some, Bool.and_eq_true] at h2
  refine ⟨_, rfl, by unfold isL; simpa using h2.1, fun e he => ?_⟩
  unfold deps at he
  obtain ⟨x, hx, rfl⟩ := List.mem_map.1 he
  obtain ⟨hx1, hx2⟩ := List.mem_filter.1 hx
  have := Array.all_eq_true_iff_forall_mem.1 h2.2 x (Array.mem_toList_iff.1 hx1)
  rw [hx2] at this
  unfold isL
  simp only [Bool.not_true, Bool.false_or, Array.getD_eq_getD_getElem?] at this ⊢
  cases hc : listed[x.on]? with
  | none => rfl
  | some b => rw [hc] at this; simpa using this

theorem ready_of {listed : Array Bool} {i : Nat} {o : Oper} (ho : ops[i]? = some o) (hi : ¬ isL listed i) (hd : ∀ e ∈ deps o, isL listed e) (hb : ∀ e ∈ deps o, e < listed.size) : i ∈ Region.ready .any ops listed := by
  unfold Region.ready
  have hlt : i < ops.size := by
    rcases Nat.lt_or_ge i ops.size with h | h
    · exact h
    · rw [Array.getElem?_eq_none h] at ho; cases ho
  refine List.mem_filter.2 ⟨List.mem_range.2 hlt, ?_⟩
  rw [ho]
  simp only [Option.map_some, Option.getD_some, Bool.and_eq_true]
  refine ⟨by unfold isL at hi; simpa using hi, Array.all_eq_true_iff_forall_mem.2 fun x hx => ?_⟩
  cases hbd : Region.binds .any x with
  | false => rfl
  | true =>
    have hm : x.on ∈ deps o := List.mem_map.2 ⟨x, List.mem_filter.2 ⟨Array.mem_toList_iff.2 hx, hbd⟩, rfl⟩
    have := hd x.on hm
    have hlt' := hb x.on hm
    unfold isL at this
    simpa [Array.getD, hlt'] using this

/-- Elders of an op that waits for nothing more are listed. -/
theorem elders (hA : okA ops A = true) {listed : Array Bool} (hc : ∀ i o, ops[i]? = some o → isL listed i → ∀ e ∈ deps o, isL listed e) :
    ∀ n i, i < n → ∀ o, ops[i]? = some o → (∀ e ∈ deps o, isL listed e) → ∀ x ∈ A.getD i [], isL listed x := by
  intro n
  induction n with
  | zero => intro i hi; omega
  | succ n ih =>
    intro i hi o ho hd x hx
    have hlt : i < ops.size := by
      rcases Nat.lt_or_ge i ops.size with h | h
      · exact h
      · rw [Array.getElem?_eq_none h] at ho; cases ho
    have h := List.all_eq_true.1 hA i (List.mem_range.2 hlt)
    rw [ho] at h
    simp only [Bool.and_eq_true] at h
    have h1 := List.all_eq_true.1 h.2 x hx
    simp only [Bool.or_eq_true, List.any_eq_true, List.elem_eq_mem, decide_eq_true_eq] at h1
    rcases h1 with h1 | ⟨j, hj, hxj⟩
    · exact hd x h1
    · have hji : j < i := by
        have := List.all_eq_true.1 h.1 j hj
        simpa [Nat.blt_eq] using this
      have hjl := hd j hj
      have hjs : j < ops.size := by omega
      exact ih j (by omega) _ (Array.getElem?_eq_getElem hjs) (hc j _ (Array.getElem?_eq_getElem hjs) hjl) x hxj

/-- While something is not listed, something is ready. -/
theorem ready_ne (hA : okA ops A = true) {listed : Array Bool} (hs : listed.size = ops.size) : ∀ n i, i < n → ¬ isL listed i → Region.ready .any ops listed ≠ [] := by
  intro n
  induction n with
  | zero => intro i hi; omega
  | succ n ih =>
    intro i hi hnl
    have hlt : i < ops.size := by
      rcases Nat.lt_or_ge i ops.size with h | h
      · exact h
      · exfalso; apply hnl; unfold isL; simp [Array.getD, Nat.not_lt.2 (hs ▸ h)]
    have ho := Array.getElem?_eq_getElem hlt
    by_cases hd : ∀ e ∈ deps ops[i], isL listed e
    · intro hr
      have h := List.all_eq_true.1 hA i (List.mem_range.2 hlt)
      rw [ho] at h
      simp only [Bool.and_eq_true] at h
      have := ready_of ho hnl hd fun e he => by
        have := List.all_eq_true.1 h.1 e he
        have : e < i := by simpa [Nat.blt_eq] using this
        rw [hs]; omega
      rw [hr] at this; cases this
    · have hd' : ∃ e, e ∈ deps ops[i] ∧ ¬ isL listed e := by
        simpa using hd
      obtain ⟨e, he, hne⟩ := hd'
      have h := List.all_eq_true.1 hA i (List.mem_range.2 hlt)
      rw [ho] at h
      simp only [Bool.and_eq_true] at h
      have := List.all_eq_true.1 h.1 e he
      exact ih e (by have : e < i := by simpa [Nat.blt_eq] using this
                     omega) hne

theorem dst_unique : ∀ {l : List Oper} {i j : Nat} {d : Nat}, nodupB (l.filterMap (·.dst)) = true → (l[i]?).bind (·.dst) = some d → (l[j]?).bind (·.dst) = some d → i = j := by
  intro l
  induction l with
  | nil => intro i j d _ h; simp at h
  | cons o l ih =>
    intro i j d hn hi hj
    have hmem : ∀ {k : Nat} {d' : Nat}, (l[k]?).bind (·.dst) = some d' → d' ∈ l.filterMap (·.dst) := by
      intro k d' hk
      rcases hl : l[k]? with _ | o'
      · simp [hl] at hk
      · exact List.mem_filterMap.2 ⟨o', List.mem_of_getElem? hl, by simpa [hl] using hk⟩
    cases hdo : o.dst with
    | none =>
      simp only [List.filterMap_cons, hdo] at hn
      cases i with
      | zero => simp [hdo] at hi
      | succ i =>
        cases j with
        | zero => simp [hdo] at hj
        | succ j => exact congrArg (· + 1) (ih (d := d) hn (by simpa using hi) (by simpa using hj))
    | some d0 =>
      simp only [List.filterMap_cons, hdo, nodupB, Bool.and_eq_true, Bool.not_eq_true'] at hn
      cases i with
      | zero =>
        cases j with
        | zero => rfl
        | succ j =>
          exfalso
          have h1 : d0 = d := by simpa [hdo] using hi
          subst h1
          have := hmem (k := j) (by simpa using hj)
          simp [this] at hn
      | succ i =>
        cases j with
        | zero =>
          exfalso
          have h1 : d0 = d := by simpa [hdo] using hj
          subst h1
          have := hmem (k := i) (by simpa using hi)
          simp [this] at hn
        | succ j => exact congrArg (· + 1) (ih (d := d) hn.2 (by simpa using hi) (by simpa using hj))

theorem okE_spec (hE : okE ops Ek Wn = true) : (∀ (i j d : Nat), (ops[i]?).bind (·.dst) = some d → (ops[j]?).bind (·.dst) = some d → i = j) ∧
    (∀ (i d : Nat), (ops[i]?).bind (·.dst) = some d → ∀ v, lk Ek d ≠ some v) ∧ (∀ x ∈ Wn, (ops[x.1]?).bind (·.dst) = some x.2.1) := by
  simp only [okE, Bool.and_eq_true] at hE
  obtain ⟨⟨h1, h2⟩, h3⟩ := hE
  have hkey : ∀ (E : Env) (n : Nat) (v : Value), lk E n = some v → ∃ x ∈ E, x.1 = n := by
    intro E
    induction E with
    | nil => intro n v h; cases h
    | cons x E ih =>
      obtain ⟨d, u⟩ := x
      intro n v h
      simp only [lk] at h
      cases hb : Nat.beq n d with
      | true => exact ⟨_, .head _, (Nat.eq_of_beq_eq_true hb).symm⟩
      | false =>
        rw [hb] at h
        obtain ⟨y, hy, he⟩ := ih n v h
        exact ⟨y, .tail _ hy, he⟩
  refine ⟨fun i j d hi hj => dst_unique h1 (by simpa using hi) (by simpa using hj), fun i d hi v hv => ?_, fun x hx => ?_⟩
  · obtain ⟨x, hx, rfl⟩ := hkey _ _ _ hv
    have := List.all_eq_true.1 h2 x hx
    have hm : x.1 ∈ ops.toList.filterMap (·.dst) := by
      rcases hl : ops[i]? with _ | o'
      · simp [hl] at hi
      · exact List.mem_filterMap.2 ⟨o', by simpa using Array.mem_of_getElem? hl, by simpa [hl] using hi⟩
    simp [hm] at this
  · have := List.all_eq_true.1 h3 x hx
    cases hl : (ops[x.1]?).bind (·.dst) with
    | none => rw [hl] at this; cases this
    | some d => rw [hl] at this; rw [Nat.eq_of_beq_eq_true this]

/-- An op is listed; its slot holds what it came to. -/
theorem DSI.step {w0 : World} {listed : Array Bool} {a : Act} {w w' : World} (hE : okE ops Ek Wn = true) (h : DSI N ops Ek Wn w0 V s dn pend listed a w) {i : Nat} {o : Oper} (ho : ops[i]? = some o) (hdN : dOk o.dst N = true)
    (hnl : ¬ isL listed i) (hd : ∀ e ∈ deps o, isL listed e) {v : Value} {s' : Ctx} (hst : St s' w0 w') {V' : List (Nat × Nat × Value)} {dn' pend' : List Nat}
    (hV : ∀ x ∈ V', x ∈ V ∨ (o.dst = some x.2.1 ∧ x.1 = i ∧ x.2.2 = v)) (hVi : ∀ x ∈ V, x.1 = i → x.2.2 = v) (hnd : nodupB (V'.map (·.1)) = true) (hVs : ∀ x ∈ V, x ∈ V') (hdns : ∀ e ∈ dn, e ∈ dn') (hin : (∃ x ∈ V', x.1 = i) ∨ i ∈ dn') (hdn : ∀ e ∈ dn', e ∈ dn ∨ e = i) (hpend : ∀ e ∈ pend', e ∈ pend ∧ e ≠ i) :
    DSI N ops Ek Wn w0 V' s' dn' pend' (listed.setIfInBounds i true) (a.put o.dst v) w' := by
  obtain ⟨hu, hek, hwn⟩ := okE_spec hE
  have hdst : (ops[i]?).bind (·.dst) = o.dst := by rw [ho]; rfl
  have hlt : i < ops.size := by
    rcases Nat.lt_or_ge i ops.size with h | h
    · exact h
    · rw [Array.getElem?_eq_none h] at ho; cases ho
  have hother : ∀ n, o.dst ≠ some n → (a.put o.dst v).tmps.getD n undef = a.tmps.getD n undef := by
    intro n hn
    cases hdd : o.dst with
    | none => rfl
    | some d =>
      rw [hdd] at hdN hn
      have : d < a.tmps.size := by rw [h.tsize]; simpa [dOk, Nat.blt_eq] using hdN
      show (a.tmps.setIfInBounds d v).getD n undef = _
      rw [getD_set _ _ _ _ this, if_neg (fun e => hn (by rw [e]))]
  have hself : ∀ n, o.dst = some n → (a.put o.dst v).tmps.getD n undef = v := by
    intro n hn
    rw [hn] at hdN ⊢
    have : n < a.tmps.size := by rw [h.tsize]; simpa [dOk, Nat.blt_eq] using hdN
    show (a.tmps.setIfInBounds n v).getD n undef = _
    rw [getD_set _ _ _ _ this, if_pos rfl]
  refine ⟨fun j hj hl => ?_, by simp [h.size], fun j oj hj hl e he => ?_, fun e he => ?_, fun e he => ?_, ?_, ?_, fun n u hn => ?_, fun x hx hl => ?_, fun x hx => ?_, hnd, hst⟩
  · rw [isL_set] at hl
    rcases hl with hl | rfl
    · rcases h.only j hj hl with ⟨x, hx, he⟩ | h'
      · exact .inl ⟨x, hVs x hx, he⟩
      · exact .inr (hdns j h')
    · exact hin
  · rw [isL_set] at hl ⊢
    rcases hl with hl | rfl
    · exact .inl (h.closed j oj hj hl e he)
    · rw [ho] at hj; injection hj with hj; subst hj
      exact .inl (hd e he)
  · rw [isL_set]
    rcases hdn e he with h' | h'
    · exact ⟨(h.dn e h').1, .inl (h.dn e h').2⟩
    · exact ⟨h' ▸ hlt, .inr h'⟩
  · obtain ⟨h1, h2⟩ := hpend e he
    refine ⟨(h.pend e h1).1, ?_⟩
    rw [isL_set]
    rintro (h' | h')
    · exact (h.pend e h1).2 h'
    · exact h2 h'
  · cases hdd : o.dst <;> exact h.defers
  · cases hdd : o.dst <;> simp [Act.put, h.tsize]
  · rw [hother n (fun e => hek i n (hdst.trans e) u hn)]
    exact h.ek n u hn
  · rw [isL_set] at hl
    have hl1 : ¬ isL listed x.1 := fun h' => hl (.inl h')
    have hl2 : x.1 ≠ i := fun h' => hl (.inr h')
    rw [hother _ (fun e => hl2 (hu _ _ _ (hwn x hx) (hdst.trans e)))]
    exact h.wn x hx hl1
  · rcases hV x hx with hx | ⟨h1, h2, h3⟩
    · have hvx := h.v x hx
      refine ⟨hvx.1, fun hl => ?_⟩
      rw [isL_set] at hl
      by_cases hxi : x.1 = i
      · have hd' : o.dst = some x.2.1 := by rw [← hdst, ← hxi]; exact hvx.1
        rw [hself _ hd', hVi x hx hxi]
      · have hl' : isL listed x.1 := hl.resolve_right hxi
        rw [hother _ (fun e => hxi (hu _ _ _ hvx.1 (hdst.trans e)))]
        exact hvx.2 hl'
    · refine ⟨by rw [h2, hdst, h1], fun _ => ?_⟩
      rw [hself _ h1, h3]

theorem wanted_of {w0 : World} {a : Act} {w : World} {E : Env} (hs : Sat N w0 E s a w) {j dj : Nat} {c b : Bool} (hj : (ops[j]?).bind (·.dst) = some dj) (hb : lk E dj = some (.bool c)) {o : Oper} (hg : o.guard = some (j, b)) :
    Region.wanted o (yielded ops a.tmps) = (c == b) := by
  simp only [Region.wanted, hg, yielded_of hs hj hb]
  cases c <;> cases b <;> rfl

theorem wpOp_quiet {w0 : World} {a : Act} {w : World} {E : Env} {Qx : Exit → Act → World → Prop} {i : Nat} {o : Oper} (ho : ops[i]? = some o) (hs : Sat N w0 E s a w) {v : Value} (hq : QG P N ops o E s v) {K : Act → World → Prop} (hK : K (a.put o.dst v) w) :
    wpOp P ops Qx i K a w := by
  unfold wpOp
  rw [ho]
  dsimp only
  unfold QG at hq
  split at hq
  · rename_i hg
    rw [if_pos (by simp [Region.wanted, hg])]
    exact .inl (hq.wp hs rfl rfl hK)
  · rename_i j b hg
    obtain ⟨dj, c, hj, hb, hq⟩ := hq
    rw [wanted_of hs hj hb hg]
    cases hcb : c == b with
    | true =>
      rw [hcb] at hq
      simp only [if_true]
      exact .inl (hq.wp hs rfl rfl hK)
    | false =>
      rw [hcb] at hq
      have : v = undef := hq
      subst this
      simpa using hK

theorem nodupB_unique : ∀ {l : List (Nat × Nat × Value)} {x y : Nat × Nat × Value}, nodupB (l.map (·.1)) = true → x ∈ l → y ∈ l → x.1 = y.1 → x = y := by
  intro l
  induction l with
  | nil => intro x y _ h; cases h
  | cons z l ih =>
    intro x y hn hx hy he
    simp only [List.map_cons, nodupB, Bool.and_eq_true, Bool.not_eq_true'] at hn
    have hz : ∀ u ∈ l, u.1 ≠ z.1 := by
      intro u hu e
      have : z.1 ∈ l.map (·.1) := e ▸ List.mem_map_of_mem hu
      simp [this] at hn
    cases hx with
    | head =>
      cases hy with
      | head => rfl
      | tail _ hy => exact absurd he.symm (hz _ hy)
    | tail _ hx =>
      cases hy with
      | head => exact absurd he (hz _ hx)
      | tail _ hy => exact ih hn.2 hx hy he

def consD (d : Option Nat) (e : Nat) (v : Value) (V : List (Nat × Nat × Value)) : List (Nat × Nat × Value) := match d with | some d => (e, d, v) :: V | none => V

/-- What an op that turns memory owes. -/
def EStep (P : Program) (N : Nat) (ops : Array Oper) (Ek : Env) (Wn : List (Nat × Nat × Value)) (Q : Post) (V : List (Nat × Nat × Value)) (s : Ctx) (dn pend : List Nat) (e : Nat) : Prop :=
  ∃ o E R, ops[e]? = some o ∧ (o.guard = none ∨ ∃ j b dj, o.guard = some (j, b) ∧ (ops[j]?).bind (·.dst) = some dj ∧ lk E dj = some (.bool b)) ∧ V.any (fun x => Nat.beq x.1 e) = false ∧ EOk ops Ek Wn V e o E ∧
    Eff P N o.op o.type E s R ∧ ∃ pend', (pend'.all fun e' => pend.elem e' && !Nat.beq e' e) = true ∧ ∀ v s', R v s' → DStage P N ops Ek Wn Q (consD o.dst e v V) s' (e :: dn) pend'

theorem D.stage (hA : okA ops A = true) (hE : okE ops Ek Wn = true) (hN : (ops.toList.all fun o => dOk o.dst N) = true) (hLp : (pend.all fun e => !(L.any fun x => Nat.beq x.1 e)) = true) (hc : cover ops A L dn pend = true)
    (hlast : pend = [] → Q .normal (V.map (·.2) ++ Ek) s) (heff : ∀ e ∈ pend, pend.any (fun e' => (A.getD e []).elem e') = true ∨ EStep P N ops Ek Wn Q V s dn pend e) : D P N ops Ek Wn Q V L s dn pend := by
  intro hL w0 fuel
  have hend : ∀ listed a w, DSI N ops Ek Wn w0 V s dn pend listed a w → (∀ i, isL listed i) → lift N w0 Q .normal a w := by
    intro listed a w h hall
    have hp : pend = [] := by
      cases hpd : pend with
      | nil => rfl
      | cons e r => exact absurd (hall e) (h.pend e (by rw [hpd]; exact .head _)).2
    refine ⟨_, s, ⟨h.defers, h.tsize, fun n u hn => ?_, h.st⟩, hlast hp⟩
    rcases lk_append hn with hn | hn
    · obtain ⟨x, hx, he⟩ := List.mem_map.1 hn
      have := (h.v x hx).2 (hall _)
      rw [he] at this; exact this
    · exact h.ek n u hn
  have hempty : ∀ listed a w, DSI N ops Ek Wn w0 V s dn pend listed a w → Region.ready .any ops listed = [] → ∀ i, isL listed i := by
    intro listed a w h hr i
    by_cases hl : isL listed i
    · exact hl
    · exact absurd hr (ready_ne hA h.size (i + 1) i (by omega) hl)
  induction fuel with
  | zero =>
    intro listed a w h hcnt
    have hall := cnt_zero (Nat.le_zero.1 hcnt)
    refine ⟨?_, hend _ _ _ h hall⟩
    refine List.eq_nil_iff_forall_not_mem.2 fun i hi => ?_
    obtain ⟨o, _, hnl, _⟩ := mem_ready hi
    exact hnl (hall i)
  | succ fuel ih =>
    intro listed a w h hcnt
    refine ⟨fun hr => hend _ _ _ h (hempty _ _ _ h hr), fun i hi => ?_⟩
    obtain ⟨o, ho, hnl, hd⟩ := mem_ready hi
    have hlt : i < ops.size := by
      rcases Nat.lt_or_ge i ops.size with h | h
      · exact h
      · rw [Array.getElem?_eq_none h] at ho; cases ho
    have hdo : dOk o.dst N = true := List.all_eq_true.1 hN o (by simpa using Array.mem_of_getElem? ho)
    have hcount : cnt (listed.setIfInBounds i true) ≤ fuel := by have := cnt_set hnl; omega
    have hblk : ∀ e ∈ pend, ¬ (A.getD i []).elem e = true := fun e he hm =>
      (h.pend e he).2 (elders hA h.closed (i + 1) i (by omega) o ho hd e (by simpa using hm))
    have hcov := List.all_eq_true.1 hc i (List.mem_range.2 hlt)
    simp only [Bool.or_eq_true, List.any_eq_true] at hcov
    rcases hcov with (((hcov | ⟨e, he, hx⟩) | hcov) | ⟨e, he, hm⟩) | ⟨x, hx, hxi⟩
    · exact absurd (h.dn i (by simpa using hcov)).2 hnl
    · obtain ⟨hes, hel⟩ := h.dn e he
      exact absurd (elders hA h.closed (e + 1) e (by omega) _ (Array.getElem?_eq_getElem hes) (h.closed e _ (Array.getElem?_eq_getElem hes) hel) i (by simpa using hx)) hnl
    · have hip : i ∈ pend := by simpa using hcov
      rcases heff i hip with hb | ⟨o', E, R, ho', hg, hVe, hEok, hEff, pend', hp', hk⟩
      · obtain ⟨e', he', hm⟩ := List.any_eq_true.1 hb
        exact absurd hm (hblk e' he')
      · rw [ho] at ho'; injection ho' with ho'; subst ho'
        have hs := h.sat hnl hd hEok
        have hw : Region.wanted o (yielded ops a.tmps) = true := by
          rcases hg with hg | ⟨j, b, dj, hg, hj, hb⟩
          · simp [Region.wanted, hg]
          · rw [wanted_of hs hj hb hg]; cases b <;> rfl
        unfold wpOp
        rw [ho]
        dsimp only
        rw [if_pos hw]
        refine .inl (hEff w0 a w hs o rfl rfl _ _ fun v s' w' hR hst => ?_)
        refine hk v s' hR w0 fuel _ _ _ ?_ hcount
        have hVn : ∀ x ∈ V, x.1 ≠ i := fun x hx e => by
          have := List.any_eq_false.1 hVe x hx
          exact this (by rw [e]; exact Nat.beq_refl i)
        refine h.step hE ho hdo hnl hd hst (fun x hx => ?_) (fun x hx e => absurd e (hVn x hx)) ?_ (fun x hx => ?_) (fun e he => .tail _ he) (.inr (.head _)) (fun e he => ?_) (fun e he => ?_)
        · cases hdd : o.dst with
          | none => rw [hdd] at hx; exact .inl hx
          | some d =>
            rw [hdd] at hx
            cases hx with
            | head => exact .inr ⟨rfl, rfl, rfl⟩
            | tail _ hx => exact .inl hx
        · cases hdd : o.dst with
          | none => exact h.vnd
          | some d =>
            simp only [consD, List.map_cons, nodupB, Bool.and_eq_true, h.vnd, and_true, Bool.not_eq_true']
            have : i ∉ V.map (·.1) := fun hm => by
              obtain ⟨x, hx, hxe⟩ := List.mem_map.1 hm
              exact hVn x hx hxe
            simpa using this
        · cases hdd : o.dst with
          | none => exact hx
          | some d => exact .tail _ hx
        · cases he with
          | head => exact .inr rfl
          | tail _ he => exact .inl he
        · have := List.all_eq_true.1 hp' e he
          simp only [Bool.and_eq_true, Bool.not_eq_true'] at this
          exact ⟨by simpa using this.1, Nat.ne_of_beq_eq_false this.2⟩
    · exact absurd hm (hblk e he)
    · have hxi' : x.1 = i := Nat.eq_of_beq_eq_true hxi
      subst hxi'
      obtain ⟨hxV, o', E, ho', hdst, hEok, hQ⟩ := hL x hx
      rw [ho] at ho'; injection ho' with ho'; subst ho'
      have hs := h.sat hnl hd hEok
      refine wpOp_quiet ho hs hQ (ih _ _ _ ?_ hcount)
      refine h.step hE ho hdo hnl hd h.st (fun y hy => .inl hy) (fun y hy hyi => ?_) h.vnd (fun y hy => hy) (fun e he => he) (.inl ⟨x, hxV, rfl⟩) (fun e he => .inl he) (fun e he => ⟨he, fun e' => ?_⟩)
      · rw [nodupB_unique h.vnd hy hxV hyi]
      · have := List.all_eq_true.1 hLp e he
        have h2 : L.any (fun x => Nat.beq x.1 e) = false := by simpa only [Bool.not_eq_true'] using this
        exact List.any_eq_false.1 h2 x hx (by rw [← e']; exact Nat.beq_refl _)

/-! ## The rules -/

/-- A quiet op, told in the text's order. -/
theorem D.quiet (i : Nat) {o : Oper} {d : Nat} {v : Value} (ho : ops[i]? = some o) (hd : o.dst = some d) (hnew : V.any (fun x => Nat.beq x.1 i) = false) (hdn : dn.elem i = false) (hq : QG P N ops o (Ei ops Ek Wn V i o) s v)
    (k : D P N ops Ek Wn Q ((i, d, v) :: V) ((i, d, v) :: L) s dn pend) : D P N ops Ek Wn Q V L s dn pend := by
  intro hL
  have hk := k (fun x hx => by
    cases hx with
    | head => exact ⟨.head _, o, _, ho, hd, (EOk_Ei i o).more, hq⟩
    | tail _ hx =>
      obtain ⟨h1, o', E, h2, h3, h4, h5⟩ := hL x hx
      exact ⟨.tail _ h1, o', E, h2, h3, h4.more, h5⟩)
  have hVn : ∀ x ∈ V, x.1 ≠ i := fun x hx e => List.any_eq_false.1 hnew x hx (by rw [e]; exact Nat.beq_refl i)
  have hlt : i < ops.size := by
    rcases Nat.lt_or_ge i ops.size with h | h
    · exact h
    · rw [Array.getElem?_eq_none h] at ho; cases ho
  intro w0 fuel listed a w h hc
  refine hk w0 fuel listed a w ⟨fun j hj hl => ?_, h.size, h.closed, h.dn, h.pend, h.defers, h.tsize, h.ek, h.wn, fun x hx => ?_, ?_, h.st⟩ hc
  · rcases h.only j hj hl with ⟨x, hx, he⟩ | h'
    · exact .inl ⟨x, .tail _ hx, he⟩
    · exact .inr h'
  · cases hx with
    | head =>
      refine ⟨by rw [ho]; exact hd, fun hl => ?_⟩
      rcases h.only i hlt hl with ⟨x, hx, he⟩ | h'
      · exact absurd he (hVn x hx)
      · have : dn.elem i = true := by simpa using h'
        rw [hdn] at this; cases this
    | tail _ hx => exact h.v x hx
  · simp only [List.map_cons, nodupB, Bool.and_eq_true, h.vnd, and_true, Bool.not_eq_true']
    have : i ∉ V.map (·.1) := fun hm => by
      obtain ⟨x, hx, hxe⟩ := List.mem_map.1 hm
      exact hVn x hx hxe
    simpa using this

/-- A quiet op that may come behind what has turned memory since: it is still the same. -/
theorem D.again (x : Nat × Nat × Value) {o : Oper} (hx : x ∈ V) (ho : ops[x.1]? = some o) (hd : o.dst = some x.2.1) (hq : QG P N ops o (Ei ops Ek Wn V x.1 o) s x.2.2)
    (k : D P N ops Ek Wn Q V (x :: L) s dn pend) : D P N ops Ek Wn Q V L s dn pend := by
  intro hL
  refine k (fun y hy => ?_)
  cases hy with
  | head => exact ⟨hx, o, _, ho, hd, EOk_Ei x.1 o, hq⟩
  | tail _ hy => exact hL y hy

theorem D.last (A : List (List Nat)) (hA : okA ops A = true) (hE : okE ops Ek Wn = true) (hN : (ops.toList.all fun o => dOk o.dst N) = true) (hc : cover ops A L dn [] = true)
    (h : Q .normal (V.map (·.2) ++ Ek) s) : D P N ops Ek Wn Q V L s dn [] :=
  D.stage hA hE hN rfl hc (fun _ => h) (fun e he => by cases he)

/-- One op that turns memory may come next. -/
theorem D.eff (A : List (List Nat)) (e : Nat) (pend' : List Nat) {o : Oper} {R : Value → Ctx → Prop} (hA : okA ops A = true) (hE : okE ops Ek Wn = true) (hN : (ops.toList.all fun o => dOk o.dst N) = true)
    (hLp : ((e :: pend').all fun e => !(L.any fun x => Nat.beq x.1 e)) = true) (hc : cover ops A L dn (e :: pend') = true) (hlate : (pend'.all fun i => (A.getD i []).elem e && !Nat.beq i e) = true)
    (hnew : V.any (fun x => Nat.beq x.1 e) = false) (ho : ops[e]? = some o) (hg : o.guard = none) (he : Eff P N o.op o.type (Ei ops Ek Wn V e o) s R)
    (k : ∀ v s', R v s' → D P N ops Ek Wn Q (consD o.dst e v V) [] s' (e :: dn) pend') : D P N ops Ek Wn Q V L s dn (e :: pend') := by
  refine D.stage hA hE hN hLp hc (fun h => by cases h) fun i hi => ?_
  cases hi with
  | head =>
    refine .inr ⟨o, _, R, ho, .inl hg, hnew, EOk_Ei e o, he, pend', ?_, fun v s' hR => k v s' hR (fun x hx => by cases hx)⟩
    refine List.all_eq_true.2 fun i hi => ?_
    have := List.all_eq_true.1 hlate i hi
    simp only [Bool.and_eq_true] at this ⊢
    exact ⟨by simpa using .inr hi, this.2⟩
  | tail _ hi =>
    have := List.all_eq_true.1 hlate i hi
    simp only [Bool.and_eq_true] at this
    exact .inl (List.any_eq_true.2 ⟨e, .head _, this.1⟩)

/-- The same where the op is guarded, and its guard says yes. -/
theorem D.effg (A : List (List Nat)) (e : Nat) (pend' : List Nat) {o : Oper} {R : Value → Ctx → Prop} {j dj : Nat} {b : Bool} (hA : okA ops A = true) (hE : okE ops Ek Wn = true) (hN : (ops.toList.all fun o => dOk o.dst N) = true)
    (hLp : ((e :: pend').all fun e => !(L.any fun x => Nat.beq x.1 e)) = true) (hc : cover ops A L dn (e :: pend') = true) (hlate : (pend'.all fun i => (A.getD i []).elem e && !Nat.beq i e) = true)
    (hnew : V.any (fun x => Nat.beq x.1 e) = false) (ho : ops[e]? = some o) (hg : o.guard = some (j, b)) (hj : (ops[j]?).bind (·.dst) = some dj) (hb : lk (Ei ops Ek Wn V e o) dj = some (.bool b)) (he : Eff P N o.op o.type (Ei ops Ek Wn V e o) s R)
    (k : ∀ v s', R v s' → D P N ops Ek Wn Q (consD o.dst e v V) [] s' (e :: dn) pend') : D P N ops Ek Wn Q V L s dn (e :: pend') := by
  refine D.stage hA hE hN hLp hc (fun h => by cases h) fun i hi => ?_
  cases hi with
  | head =>
    refine .inr ⟨o, _, R, ho, .inr ⟨j, b, dj, hg, hj, hb⟩, hnew, EOk_Ei e o, he, pend', ?_, fun v s' hR => k v s' hR (fun x hx => by cases hx)⟩
    refine List.all_eq_true.2 fun i hi => ?_
    have := List.all_eq_true.1 hlate i hi
    simp only [Bool.and_eq_true] at this ⊢
    exact ⟨by simpa using .inr hi, this.2⟩
  | tail _ hi =>
    have := List.all_eq_true.1 hlate i hi
    simp only [Bool.and_eq_true] at this
    exact .inl (List.any_eq_true.2 ⟨e, .head _, this.1⟩)

/-- Two ops that turn memory, either of which may come next. -/
theorem D.eff2 (A : List (List Nat)) (e f : Nat) (pend' : List Nat) {o o' : Oper} {R R' : Value → Ctx → Prop} (hA : okA ops A = true) (hE : okE ops Ek Wn = true) (hN : (ops.toList.all fun o => dOk o.dst N) = true)
    (hLp : ((e :: f :: pend').all fun e => !(L.any fun x => Nat.beq x.1 e)) = true) (hc : cover ops A L dn (e :: f :: pend') = true) (hlate : (pend'.all fun i => ((A.getD i []).elem e || (A.getD i []).elem f) && (!Nat.beq i e && !Nat.beq i f)) = true) (hef : Nat.beq e f = false)
    (hnew : V.any (fun x => Nat.beq x.1 e) = false) (hnew' : V.any (fun x => Nat.beq x.1 f) = false) (ho : ops[e]? = some o) (hg : o.guard = none) (he : Eff P N o.op o.type (Ei ops Ek Wn V e o) s R)
    (ho' : ops[f]? = some o') (hg' : o'.guard = none) (he' : Eff P N o'.op o'.type (Ei ops Ek Wn V f o') s R')
    (k : ∀ v s', R v s' → D P N ops Ek Wn Q (consD o.dst e v V) [] s' (e :: dn) (f :: pend'))
    (k' : ∀ v s', R' v s' → D P N ops Ek Wn Q (consD o'.dst f v V) [] s' (f :: dn) (e :: pend')) : D P N ops Ek Wn Q V L s dn (e :: f :: pend') := by
  have hne : e ≠ f := Nat.ne_of_beq_eq_false hef
  refine D.stage hA hE hN hLp hc (fun h => by cases h) fun i hi => ?_
  cases hi with
  | head =>
    refine .inr ⟨o, _, R, ho, .inl hg, hnew, EOk_Ei e o, he, f :: pend', ?_, fun v s' hR => k v s' hR (fun x hx => by cases hx)⟩
    refine List.all_eq_true.2 fun i hi => ?_
    cases hi with
    | head =>
      have h1 : Nat.beq f e = false := by
        cases hb : Nat.beq f e with
        | false => rfl
        | true => exact absurd (Nat.eq_of_beq_eq_true hb).symm hne
      simp [h1]
    | tail _ hi =>
      have := List.all_eq_true.1 hlate i hi
      simp only [Bool.and_eq_true] at this ⊢
      exact ⟨by simpa using .inr (.inr hi), this.2.1⟩
  | tail _ hi =>
    cases hi with
    | head =>
      refine .inr ⟨o', _, R', ho', .inl hg', hnew', EOk_Ei f o', he', e :: pend', ?_, fun v s' hR => k' v s' hR (fun x hx => by cases hx)⟩
      refine List.all_eq_true.2 fun i hi => ?_
      cases hi with
      | head => simp [hef]
      | tail _ hi =>
        have := List.all_eq_true.1 hlate i hi
        simp only [Bool.and_eq_true] at this ⊢
        exact ⟨by simpa using .inr (.inr hi), this.2.2⟩
    | tail _ hi =>
      have := List.all_eq_true.1 hlate i hi
      simp only [Bool.and_eq_true, Bool.or_eq_true] at this
      refine .inl (List.any_eq_true.2 ?_)
      rcases this.1 with h | h
      · exact ⟨e, .head _, h⟩
      · exact ⟨f, .tail _ (.head _), h⟩

/-- A region that draws its order. -/
theorem W.draw {id : Nat} {E : Env} {pend : List Nat} (Ek : Env) (Wn : List (Nat × Nat × Value)) (hm : P.follows .mixedOrders = true) (hEk : ESub Ek E) (hWn : ESub (Wn.map (·.2)) E) (hp : (pend.all fun e => Nat.blt e ops.size) = true)
    (h : D P N ops Ek Wn Q [] [] s [] pend) : W P N (.region id ops true) Q E s := by
  intro w0 a w hs
  refine wp_region_any hm ?_
  have hnl : ∀ i, i < ops.size → ¬ isL (Array.replicate ops.size false) i := by
    intro i hi
    unfold isL
    simp [Array.getD, hi]
  refine h (fun x hx => by cases hx) w0 _ _ a _ ⟨fun i hi hl => absurd hl (hnl i hi), by simp, fun i o ho hl => ?_, (fun e he => by cases he), fun e he => ?_, hs.defers, hs.size, fun n v hn => hs.env n v (hEk.lk n v hn), fun x hx _ => ?_, (fun x hx => by cases hx), rfl, ?_⟩ ?_
  · have hlt : i < ops.size := by
      rcases Nat.lt_or_ge i ops.size with h | h
      · exact h
      · rw [Array.getElem?_eq_none h] at ho; cases ho
    exact absurd hl (hnl i hlt)
  · have := List.all_eq_true.1 hp e he
    have hlt : e < ops.size := by simpa [Nat.blt_eq] using this
    exact ⟨hlt, hnl e hlt⟩
  · have key : ∀ (l : Env), ESub l E → ∀ p ∈ l, lk E p.1 = some p.2 := by
      intro l
      induction l with
      | nil => intro _ p hp; cases hp
      | cons q l ih =>
        obtain ⟨n, v⟩ := q
        intro hl p hp
        cases hp with
        | head => exact hl.1
        | tail _ hp => exact ih hl.2 p hp
    exact hs.env _ _ (key _ hWn x.2 (List.mem_map_of_mem hx))
  · obtain ⟨Kp, M⟩ := s
    exact hs.st.drawn rfl ⟨rfl, rfl, rfl⟩
  · unfold cnt
    refine Nat.le_trans (List.length_filter_le _ _) ?_
    simp
end
end Go.HL
