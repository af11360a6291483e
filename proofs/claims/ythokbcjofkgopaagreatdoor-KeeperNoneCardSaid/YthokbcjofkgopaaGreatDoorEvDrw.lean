/-
  Regions whose order is drawn: whatever order the tape draws, the slots and the heap come to the same.
-/
import Derived.Test.YthokbcjofkgopaaGreatDoorEvReg
import Derived.Orders
namespace Go.EV
open Go Go.HL

/-! ## Bits -/

theorem tb_eq (m i : Nat) : tb m i = m.testBit i := by
  unfold tb
  rw [Nat.testBit_eq_decide_div_mod_eq]
  show (match m / 2 ^ i % 2 with | 0 => false | _ + 1 => true) = _
  rcases Nat.mod_two_eq_zero_or_one (m / 2 ^ i) with h | h <;> simp [h]
theorem tb_bit (i j : Nat) : tb (bit i) j = true ↔ i = j := by
  rw [tb_eq]; unfold bit
  show (2 ^ i).testBit j = true ↔ _
  rw [Nat.testBit_two_pow]; simp
theorem tb_lor (m n i : Nat) : tb (Nat.lor m n) i = (tb m i || tb n i) := by
  rw [tb_eq, tb_eq, tb_eq]; exact Nat.testBit_or m n i
theorem tb_zero (i : Nat) : tb 0 i = false := by rw [tb_eq]; simp
theorem nz_land {m n : Nat} : nz (Nat.land m n) = true → ∃ i, tb m i = true ∧ tb n i = true := by
  intro h
  have h0 : Nat.land m n ≠ 0 := by intro he; rw [he] at h; cases h
  obtain ⟨i, hi⟩ := Nat.exists_testBit_of_ne_zero h0
  have hi : (m &&& n).testBit i = true := hi
  rw [Nat.testBit_and, Bool.and_eq_true] at hi
  exact ⟨i, by rw [tb_eq]; exact hi.1, by rw [tb_eq]; exact hi.2⟩
theorem tb_xor (m n i : Nat) : tb (Nat.xor m n) i = (tb m i != tb n i) := by
  rw [tb_eq, tb_eq, tb_eq]; exact Nat.testBit_xor m n i
theorem tb_lt {m n i : Nat} (h : m < 2 ^ n) (hi : n ≤ i) : tb m i = false := by
  rw [tb_eq]; exact Nat.testBit_lt_two_pow (Nat.lt_of_lt_of_le h (Nat.pow_le_pow_right (by decide) hi))
theorem lor_lt {m i n : Nat} (h : m < 2 ^ n) (hi : i < n) : Nat.lor m (bit i) < 2 ^ n := Nat.or_lt_two_pow h (Nat.pow_lt_pow_right (by decide) hi)

/-! ## Who waits for whom -/

theorem mask_sound {A : List Nat} {es : List Edge} {j : Nat} (h : tb (maskOf A es) j = true) : ∃ e ∈ es, Region.binds .any e = true ∧ (e.on = j ∨ tb (A.getD e.on 0) j = true) := by
  induction es with
  | nil => simp only [maskOf] at h; rw [tb_zero] at h; cases h
  | cons e r ih =>
    unfold maskOf at h
    split at h
    · rename_i hb
      rw [tb_lor, tb_lor, Bool.or_eq_true, Bool.or_eq_true] at h
      rcases h with (h | h) | h
      · exact ⟨e, .head _, hb, .inl ((tb_bit _ _).1 h)⟩
      · exact ⟨e, .head _, hb, .inr h⟩
      · obtain ⟨e', h1, h2⟩ := ih h; exact ⟨e', .tail _ h1, h2⟩
    · obtain ⟨e', h1, h2⟩ := ih h; exact ⟨e', .tail _ h1, h2⟩

theorem getD_append_left {l r : List Nat} {k : Nat} (h : k < l.length) : (l ++ r).getD k 0 = l.getD k 0 := by
  simp [List.getD, List.getElem?_append_left h]
theorem ancs_spec : ∀ (l : List Oper) (A : List Nat), (∀ k, k < A.length → (ancs l A).getD k 0 = A.getD k 0) ∧ (ancs l A).length = A.length + l.length ∧
    ∀ k o, l[k]? = some o → ∃ B : List Nat, (ancs l A).getD (A.length + k) 0 = maskOf B o.after.toList ∧ B.length = A.length + k ∧ ∀ q, q < B.length → B.getD q 0 = (ancs l A).getD q 0
  | [], A => ⟨fun _ _ => rfl, by simp [ancs], fun k o h => by simp at h⟩
  | o :: r, A => by
    obtain ⟨h1, h2, h3⟩ := ancs_spec r (A ++ [maskOf A o.after.toList])
    refine ⟨fun k hk => ?_, ?_, fun k o' ho => ?_⟩
    · rw [ancs, h1 k (by simp; omega), getD_append_left hk]
    · rw [ancs, h2]; simp; omega
    · cases k with
      | zero =>
        simp at ho; subst ho
        refine ⟨A, ?_, by simp, fun q hq => ?_⟩
        · rw [ancs, Nat.add_zero, h1 _ (by simp)]
          simp [List.getD]
        · rw [ancs, h1 q (by simp; omega), getD_append_left hq]
      | succ k =>
        obtain ⟨B, e1, e2, e3⟩ := h3 k o' (by simpa using ho)
        refine ⟨B, ?_, by rw [e2]; simp; omega, e3⟩
        rw [ancs]
        have : A.length + (k + 1) = (A ++ [maskOf A o.after.toList]).length + k := by simp; omega
        rw [this]; exact e1

/-- What is listed bears all that it waits for. -/
def Closed (ops : List Oper) (L : Nat → Prop) : Prop := ∀ i o, ops[i]? = some o → L i → ∀ e ∈ o.after.toList, Region.binds .any e = true → L e.on
theorem anc_sound {ops : List Oper} {L : Nat → Prop} (hc : Closed ops L) : ∀ i j, i < ops.length → (∀ o, ops[i]? = some o → ∀ e ∈ o.after.toList, Region.binds .any e = true → L e.on) → tb ((ancs ops []).getD i 0) j = true → (∀ k o, ops[k]? = some o → ∀ e ∈ o.after.toList, Region.binds .any e = true → e.on < k) → L j := by
  intro i
  induction i using Nat.strongRecOn with
  | _ i ih =>
    intro j hi hL hb hdep
    obtain ⟨_, h2, h3⟩ := ancs_spec ops []
    obtain ⟨o, ho⟩ : ∃ o, ops[i]? = some o := ⟨ops[i], List.getElem?_eq_getElem hi⟩
    obtain ⟨B, e1, e2, e3⟩ := h3 i o ho
    simp only [List.length_nil, Nat.zero_add] at e1 e2
    rw [e1] at hb
    obtain ⟨e, he, hbi, hj⟩ := mask_sound hb
    have hLe := hL o ho e he hbi
    rcases hj with rfl | hj
    · exact hLe
    · have hlt := hdep i o ho e he hbi
      rw [e3 _ (by omega)] at hj
      exact ih e.on hlt j (by omega) (fun o' ho' e' he' hb' => hc e.on o' ho' hLe e' he' hb') hj hdep

theorem chkDep_ok {i : Nat} : ∀ {es : List Edge}, chkDep i es = true → ∀ e ∈ es, Region.binds .any e = true → e.on < i
  | [], _, e, he, _ => by cases he
  | x :: r, h, e, he, hb => by
    unfold chkDep at h
    rw [Bool.and_eq_true, Bool.or_eq_true] at h
    cases he with
    | head =>
      rcases h.1 with h1 | h1
      · rw [hb] at h1; cases h1
      · simpa [Nat.blt_eq] using h1
    | tail _ he => exact chkDep_ok h.2 e he hb
theorem chkDeps_ok : ∀ {l : List Oper} {k : Nat}, chkDeps l k = true → ∀ i o, l[i]? = some o → ∀ e ∈ o.after.toList, Region.binds .any e = true → e.on < k + i
  | [], _, _, i, o, ho => by simp at ho
  | x :: r, k, h, i, o, ho => by
    unfold chkDeps at h
    rw [Bool.and_eq_true] at h
    cases i with
    | zero => simp at ho; subst ho; exact fun e he hb => by simpa using chkDep_ok h.1 e he hb
    | succ i =>
      intro e he hb
      have := chkDeps_ok h.2 i o (by simpa using ho) e he hb
      have : e.on < k + 1 + i := this
      omega

/-! ## Who writes which slot -/

theorem lkp_mem {α : Type} : ∀ {l : List (Nat × α)} {n : Nat} {v : α}, lkp l n = some v → (n, v) ∈ l
  | [], _, _, h => by cases h
  | (k, u) :: r, n, v, h => by
    unfold lkp at h
    split at h
    · rename_i hb
      injection h with h; subst h
      have : n = k := Nat.eq_of_beq_eq_true hb
      subst this; exact .head _
    · exact .tail _ (lkp_mem h)
theorem lkp_none {α : Type} : ∀ {l : List (Nat × α)} {n : Nat}, lkp l n = none → ∀ v, (n, v) ∉ l
  | [], _, _, v, h => by cases h
  | (k, u) :: r, n, h, v, hm => by
    unfold lkp at h
    split at h
    · cases h
    · rename_i hb
      cases hm with
      | head => simp at hb
      | tail _ hm => exact lkp_none h v hm
theorem dsts_mem : ∀ {l : List Oper} {k d i : Nat}, (d, i) ∈ dstsOf l k ↔ ∃ j, i = k + j ∧ (l[j]?).bind (·.dst) = some d
  | [], k, d, i => by simp [dstsOf]
  | o :: r, k, d, i => by
    unfold dstsOf
    have step : ((d, i) ∈ dstsOf r (Nat.succ k) ↔ ∃ j, i = k + (j + 1) ∧ (r[j]?).bind (·.dst) = some d) := by
      rw [dsts_mem]
      constructor
      · rintro ⟨j, rfl, h⟩; exact ⟨j, by simp only [Nat.succ_eq_add_one]; omega, h⟩
      · rintro ⟨j, rfl, h⟩; exact ⟨j, by simp only [Nat.succ_eq_add_one]; omega, h⟩
    cases ho : o.dst with
    | none =>
      simp only
      rw [step]
      constructor
      · rintro ⟨j, h1, h2⟩; exact ⟨j + 1, h1, by simpa using h2⟩
      · rintro ⟨j, h1, h2⟩
        cases j with
        | zero => simp [ho] at h2
        | succ j => exact ⟨j, h1, by simpa using h2⟩
    | some d' =>
      simp only [List.mem_cons, Prod.mk.injEq]
      rw [step]
      constructor
      · rintro (⟨rfl, rfl⟩ | ⟨j, h1, h2⟩)
        · exact ⟨0, rfl, by simp [ho]⟩
        · exact ⟨j + 1, h1, by simpa using h2⟩
      · rintro ⟨j, h1, h2⟩
        cases j with
        | zero => left; simp [ho] at h2; exact ⟨h2.symm, by omega⟩
        | succ j => right; exact ⟨j, h1, by simpa using h2⟩
theorem nodup_unique : ∀ {l : List (Nat × Nat)}, nodupN l = true → ∀ {d i j : Nat}, (d, i) ∈ l → (d, j) ∈ l → i = j
  | [], _, d, i, j, h, _ => by cases h
  | (x, y) :: r, hn, d, i, j, h1, h2 => by
    unfold nodupN at hn
    split at hn
    · rename_i hl
      cases h1 with
      | head =>
        cases h2 with
        | head => rfl
        | tail _ h2 => exact absurd h2 (lkp_none hl _)
      | tail _ h1 =>
        cases h2 with
        | head => exact absurd h1 (lkp_none hl _)
        | tail _ h2 => exact nodup_unique hn h1 h2
    · cases hn
theorem lkp_dst {ops : List Oper} (hn : nodupN (dstsOf ops 0) = true) {d i : Nat} : lkp (dstsOf ops 0) d = some i ↔ (ops[i]?).bind (·.dst) = some d := by
  constructor
  · intro h
    obtain ⟨j, h1, h2⟩ := dsts_mem.1 (lkp_mem h)
    have : i = j := by omega
    subst this; exact h2
  · intro h
    have hm : (d, i) ∈ dstsOf ops 0 := dsts_mem.2 ⟨i, by omega, h⟩
    cases hl : lkp (dstsOf ops 0) d with
    | none => exact absurd hm (lkp_none hl _)
    | some j => rw [nodup_unique hn (lkp_mem hl) hm]
theorem putAll_get {ops : List Oper} (hn : nodupN (dstsOf ops 0) = true) {T : Tr AV} {n : Nat} : ∀ {vals : List (Nat × AV)}, tget (putAll ops vals T) n = match lkp (dstsOf ops 0) n with
    | some x => (match lkp vals x with | some v => some v | none => tget T n)
    | none => tget T n
  | [] => by
    simp only [putAll, lkp]
    cases lkp (dstsOf ops 0) n <;> rfl
  | (i, v) :: r => by
    have ih := putAll_get hn (T := T) (n := n) (vals := r)
    unfold putAll
    cases hd : (ops[i]?).bind (·.dst) with
    | none =>
      simp only [putT]
      rw [ih]
      cases hx : lkp (dstsOf ops 0) n with
      | none => rfl
      | some x =>
        have hxi : Nat.beq x i = false := by
          cases hb : Nat.beq x i with
          | false => rfl
          | true =>
            have : x = i := Nat.eq_of_beq_eq_true hb
            subst this
            rw [(lkp_dst hn).1 hx] at hd; cases hd
        simp only [lkp, hxi]
    | some d =>
      simp only [putT]
      rw [tget_tset]
      by_cases hnd : n = d
      · subst hnd
        have := (lkp_dst hn).2 hd
        rw [if_pos rfl, this]
        simp [lkp]
      · rw [if_neg hnd, ih]
        cases hx : lkp (dstsOf ops 0) n with
        | none => rfl
        | some x =>
          have hxi : Nat.beq x i = false := by
            cases hb : Nat.beq x i with
            | false => rfl
            | true =>
              have : x = i := Nat.eq_of_beq_eq_true hb
              subst this
              rw [(lkp_dst hn).1 hx] at hd
              injection hd with hd; exact absurd hd hnd
          simp only [lkp, hxi]
end Go.EV
