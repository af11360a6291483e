/-
  Each step of the runner is the model's: the ops that turn nothing.
-/
import Derived.Test.YthokbcjofkgopaaGreatDoorEvAcc
namespace Go.EV
open Go Go.HL

def isAggD : TypeDesc → Bool
  | .struct _ => true
  | .array _ _ => true
  | _ => false
/-- Are all slots that the code writes below n, and is nothing in it that the runner does not take? -/
def cdOk (n : Nat) : Code → Bool
  | .region _ ops _ => ops.toList.all fun o => match o.dst with
    | some d => Nat.blt d n
    | none => true
  | .seq a b => cdOk n a && cdOk n b
  | .cond _ a b => cdOk n a && cdOk n b
  | .block _ b => cdOk n b
  | .loop b => cdOk n b
  | .scope b => cdOk n b
  | _ => true
structure TOk (P : Program) (t : Nat) (ti : TI) : Prop where
  info : ∃ i, P.info? t = some i ∧ i.size = ti.sz ∧ i.bytes = ti.by_ ∧ i.zero = some ti.zero
  und : P.underlying t = some ti.u
  zs : ti.zero.cells.size = ti.sz
  agg : ti.agg = isAggD ti.u
  fld : ∀ fs, ti.u = .struct fs → ∀ f ∈ fs.toList, ∃ i, P.info? f.type = some i
/-- A package-level variable that is never written. -/
def gK (g : Nat) (l : List Value) : KP := ⟨fun H => ∃ arr e fr, H g = some (.cells arr e fr) ∧ ∀ (j : Nat) v, l[j]? = some v → arr[j]? = some v, fun _ _ hle ⟨arr, e, fr, h1, h2⟩ => ⟨arr, e, fr, hle _ _ h1, h2⟩⟩
structure XOk (X : Sx) (GK : List KP) : Prop where
  tt : ∀ t ti, X.TT t = some ti → TOk X.P t ti
  gt : ∀ g l, X.GT g = some l → gK g l ∈ GK
  ft : ∀ f fi, X.FT f = some fi → ∃ fn, X.P.funcs[f]? = some fn ∧ fn.body = fi.body ∧ fn.results.toList = fi.res ∧ fn.ntmps = fi.n ∧ (∀ c, fi.body = some c → fn.name ≠ "runtime.NumGoroutine" ∧ cdOk fi.n c = true)
  mo : X.P.follows .mixedOrders = true

def EnvR (γ : Va) (ρ : Rho) (a : Act) : Prop := ∀ n av, ρ n = some av → IV γ av (a.tmps.getD n undef)

def Good (P : Program) (K : List KP) (M : List Own) (γ : Va) (h : Hp) (w0 : World) (a : Act) (w : World) (o : Oper) : Res → Prop
  | .no => True
  | .pure v => ∃ u, (execOp a.eval o).run P w = .ok (.value u) w ∧ IV γ v u
  | .rd v => ∃ u, (execOp a.eval o).run P w = .ok (.value u) w ∧ IV γ v u
  | .eff v h' => ∃ nx u w' γ', (execOp a.eval o).run P w = .ok nx w' ∧ (nx = .value u ∨ nx = .skip ∧ u = undef) ∧ IV γ' v u ∧ Ext h.next γ γ' ∧ h.next ≤ h'.next ∧ St ⟨K, hO γ' h' :: M⟩ w0 w'
  | .call f args => ∃ us, (execOp a.eval o).run P w = (callFunc f us.toArray).run P w ∧ IVL γ args us

theorem pureRun_ok {P : Program} {α : Type} : ∀ {s : Sem α} {x : α}, pureRun P s = some x → ∀ w, s.run P w = .ok x w := by
  intro s
  induction s with
  | pure a => intro x h w; simp [pureRun] at h; subst h; rfl
  | program k ih => intro x h w; exact ih P h w
  | mark m k ih => intro x h w; exact ih h w
  | _ => intro x h; simp [pureRun] at h

section
variable {X : Sx} {GK K : List KP} {M : List Own} {γ : Va} {ρ : Rho} {h : Hp} {w0 w : World} {a : Act} {o : Oper}

theorem ev_ok (hE : EnvR γ ρ a) {x : Operand} {av : AV} (hx : evO ρ x = some av) : IV γ av (a.eval x) := by
  cases x with
  | tmp t => exact hE t av hx
  | const v => simp only [evO] at hx; injection hx with hx; subst hx; exact iv_v.2 rfl
  | global g => simp only [evO] at hx; injection hx with hx; subst hx; exact iv_v.2 rfl
  | func f => simp only [evO] at hx; injection hx with hx; subst hx; exact iv_v.2 rfl
theorem ev_v (hE : EnvR γ ρ a) {x : Operand} {v : Value} (hx : evO ρ x = some (.v v)) : a.eval x = v := iv_v.1 (ev_ok hE hx)
theorem evL_ok (hE : EnvR γ ρ a) : ∀ {l : List Operand} {as : List AV}, evL ρ l = some as → IVL γ as (l.map a.eval) := by
  intro l
  induction l with
  | nil => intro as hl; simp only [evL] at hl; injection hl with hl; subst hl; exact IVL.nil
  | cons x l ih =>
    intro as hl
    simp only [evL] at hl
    cases hx : evO ρ x with
    | none => rw [hx] at hl; cases hl
    | some av =>
      rw [hx] at hl
      cases hr : evL ρ l with
      | none => rw [hr] at hl; cases hl
      | some r =>
        rw [hr] at hl
        injection hl with hl; subst hl
        exact IVL.cons (ev_ok hE hx) (ih hr)
theorem conc_eq (hE : EnvR γ ρ a) {x : Operand} (hx : isV (evO ρ x) = true) : conc ρ x = a.eval x := by
  unfold conc
  cases he : evO ρ x with
  | none => rw [he] at hx; cases hx
  | some av =>
    rw [he] at hx
    cases av with
    | v u => exact (ev_v hE he).symm
    | _ => simp [isV] at hx
theorem allConc_eq (hE : EnvR γ ρ a) {op : Op} (hc : allConc ρ op = true) : ∀ x ∈ op.operands.toList, conc ρ x = a.eval x := fun x hx => conc_eq hE (List.all_eq_true.1 hc x hx)

theorem pO_ok {v : Option AV} (hv : ∀ u, v = some u → Good X.P K M γ h w0 a w o (.pure u)) : Good X.P K M γ h w0 a w o (pO v) := by
  cases v with
  | none => trivial
  | some u => exact hv u rfl
theorem rO_ok {v : Option AV} (hv : ∀ u, v = some u → Good X.P K M γ h w0 a w o (.rd u)) : Good X.P K M γ h w0 a w o (rO v) := by
  cases v with
  | none => trivial
  | some u => exact hv u rfl

/-- The operands decide. -/
theorem exec_congr {f g : Operand → Value} {o : Oper} (hf : ∀ x ∈ o.op.operands.toList, f x = g x)
    (hk : match o.op with | .fieldAddr .. => True | .indexAddr .. => True | .build .. => True | .makeInterface .. => True | .field .. => True | .extract .. => True | .unOp .. => True | .convert .. => True | .index .. => True | .slice .. => True | .call c => ∃ b, c.callee = .builtin b | _ => False) :
    execOp f o = execOp g o := by
  unfold execOp
  cases ho : o.op with
  | fieldAddr t x i => rw [ho] at hf; simp only [hf x (by simp [Op.operands])]
  | indexAddr t x y => rw [ho] at hf; simp only [hf x (by simp [Op.operands]), hf y (by simp [Op.operands])]
  | build t ps =>
    rw [ho] at hf
    have : (ps.map fun (x : Nat × Operand) => (x.1, f x.2)) = ps.map fun (x : Nat × Operand) => (x.1, g x.2) := by
      apply Array.map_congr_left
      intro x hx
      rw [hf x.2 (by simp only [Op.operands]; exact List.mem_map_of_mem (by simpa using hx))]
    simp only [this]
  | makeInterface t x => rw [ho] at hf; simp only [hf x (by simp [Op.operands])]
  | field t x i => rw [ho] at hf; simp only [hf x (by simp [Op.operands])]
  | extract x i => rw [ho] at hf; simp only [hf x (by simp [Op.operands])]
  | unOp op t x => rw [ho] at hf; simp only [hf x (by simp [Op.operands])]
  | convert s d x => rw [ho] at hf; simp only [hf x (by simp [Op.operands])]
  | index t x y => rw [ho] at hf; simp only [hf x (by simp [Op.operands]), hf y (by simp [Op.operands])]
  | slice t x lo hi mx =>
    rw [ho] at hf
    have e1 : lo.map f = lo.map g := by cases lo with | none => rfl | some y => simp only [Option.map_some]; rw [hf y (by simp [Op.operands])]
    have e2 : hi.map f = hi.map g := by cases hi with | none => rfl | some y => simp only [Option.map_some]; rw [hf y (by simp [Op.operands])]
    have e3 : mx.map f = mx.map g := by cases mx with | none => rfl | some y => simp only [Option.map_some]; rw [hf y (by simp [Op.operands])]
    simp only [hf x (by simp [Op.operands]), e1, e2, e3]
  | call c =>
    rw [ho] at hf hk
    obtain ⟨b, hb⟩ := hk
    have : c.args.map f = c.args.map g := by
      apply Array.map_congr_left
      intro x hx
      exact hf x (by simp only [Op.operands, Call.operands, hb]; simpa using hx)
    simp only [resolve, hb, this]
  | _ => rw [ho] at hk <;> exact hk.elim

theorem gen_ok (hE : EnvR γ ρ a)
    (hk : match o.op with | .fieldAddr .. => True | .indexAddr .. => True | .build .. => True | .makeInterface .. => True | .field .. => True | .extract .. => True | .unOp .. => True | .convert .. => True | .index .. => True | .slice .. => True | .call c => ∃ b, c.callee = .builtin b | _ => False) :
    Good X.P K M γ h w0 a w o (oGen X ρ o) := by
  unfold oGen
  cases hc : allConc ρ o.op with
  | false => trivial
  | true =>
    simp only
    have he := exec_congr (allConc_eq hE hc) hk
    rw [he]
    cases hp : pureRun X.P (execOp a.eval o) with
    | none => trivial
    | some nx =>
      cases nx with
      | value v => exact ⟨v, pureRun_ok hp w, iv_v.2 rfl⟩
      | _ => trivial

theorem val_ok {u : Value} {v : AV} (hr : (execOp a.eval o).run X.P w = .ok (.value u) w) (hv : IV γ v u) : Good X.P K M γ h w0 a w o (.pure v) := ⟨u, hr, hv⟩

theorem oMove_ok (hE : EnvR γ ρ a) {x : Operand} (ho : o.op = .move x ∨ o.op = .assign x) : Good X.P K M γ h w0 a w o (oMove ρ x) :=
  pO_ok fun u hu => ⟨a.eval x, by rcases ho with ho | ho <;> simp [execOp, ho], ev_ok hE hu⟩
theorem oPick_ok (hE : EnvR γ ρ a) {c x y : Operand} (ho : o.op = .pick c x y) : Good X.P K M γ h w0 a w o (oPick ρ c x y) := by
  unfold oPick
  split
  · rename_i hc
    exact pO_ok fun u hu => ⟨a.eval x, by simp [execOp, ho, ev_v hE hc, asBool], ev_ok hE hu⟩
  · rename_i hc
    exact pO_ok fun u hu => ⟨a.eval y, by simp [execOp, ho, ev_v hE hc, asBool], ev_ok hE hu⟩
  · trivial
theorem oNil_ok (hE : EnvR γ ρ a) {x : Operand} (ho : o.op = .nilCheck x) : Good X.P K M γ h w0 a w o (oNil ρ x) := by
  unfold oNil
  split
  · rename_i b f hx
    have := ev_ok hE hx
    have h0 := this
    simp only [IV] at this
    obtain ⟨g, c, _, he⟩ := this
    exact ⟨a.eval x, by simp [execOp, ho, he], h0⟩
  · rename_i f p q hx
    have := ev_ok hE hx
    have h0 := this
    simp only [IV] at this
    obtain ⟨us, ws, _, _, he⟩ := this
    exact ⟨a.eval x, by simp [execOp, ho, he], h0⟩
  · rename_i f p q hx
    have := ev_v hE hx
    exact ⟨a.eval x, by simp [execOp, ho, this], ev_ok hE hx⟩
  · rename_i p hx
    have := ev_v hE hx
    exact ⟨a.eval x, by simp [execOp, ho, this], ev_ok hE hx⟩
  · trivial

/-! ## Numbers -/

theorem wrapF_eq (k : IntKind) (n : Int) : wrapF k n = k.wrap n := by
  unfold wrapF
  split
  · rename_i m
    cases hb : Nat.blt m (lim k) with
    | false => rfl
    | true =>
      have hlt : m < lim k := by simpa [Nat.blt_eq] using hb
      cases k <;> simp only [lim] at hlt <;> simp [IntKind.wrap, IntKind.bits, IntKind.signed] <;> omega
  · rfl
theorem eqI_eq (x y : Int) : eqI x y = decide (x = y) := by
  cases x with
  | ofNat m =>
    cases y with
    | ofNat n =>
      simp only [eqI]
      by_cases hh : m = n
      · subst hh; simp
      · have : Nat.beq m n = false := by
          cases hb : Nat.beq m n with
          | false => rfl
          | true => exact absurd (Nat.eq_of_beq_eq_true hb) hh
        rw [this]; simp; omega
    | negSucc n => simp [eqI]
  | negSucc m =>
    cases y with
    | ofNat n => simp [eqI]
    | negSucc n =>
      simp only [eqI]
      by_cases hh : m = n
      · subst hh; simp
      · have : Nat.beq m n = false := by
          cases hb : Nat.beq m n with
          | false => rfl
          | true => exact absurd (Nat.eq_of_beq_eq_true hb) hh
        rw [this]; simp; omega
theorem ltI_eq (x y : Int) : ltI x y = decide (x < y) := by
  have hb : ∀ p q : Nat, Nat.blt p q = decide (p < q) := fun p q => by
    by_cases hh : p < q
    · rw [decide_eq_true hh]; simpa [Nat.blt_eq] using hh
    · rw [decide_eq_false hh]
      cases hb : Nat.blt p q with
      | false => rfl
      | true => exact absurd (by simpa [Nat.blt_eq] using hb) hh
  cases x with
  | ofNat m =>
    cases y with
    | ofNat n => simp only [ltI, hb]; congr 1; simp
    | negSucc n => simp only [ltI]; symm; apply decide_eq_false; have : Int.ofNat m = (m : Int) := rfl; rw [this, Int.negSucc_eq]; omega
  | negSucc m =>
    cases y with
    | ofNat n => simp only [ltI]; symm; apply decide_eq_true; have : Int.ofNat n = (n : Int) := rfl; rw [this, Int.negSucc_eq]; omega
    | negSucc n => simp only [ltI, hb]; congr 1; simp only [eq_iff_iff]; omega
theorem ikN_inj {k k' : IntKind} (hk : Nat.beq (ikN k) (ikN k') = true) : k = k' := by
  have := Nat.eq_of_beq_eq_true hk
  cases k <;> cases k' <;> first | rfl | (simp [ikN] at this)
theorem bv_nat {k : IntKind} {m : Nat} (hm : m < lim k) : (BitVec.ofInt k.bits (Int.ofNat m)).toNat = m ∧ m < 2 ^ k.bits := by
  have h2 : m < 2 ^ k.bits := by cases k <;> simp only [lim] at hm <;> simp [IntKind.bits] <;> omega
  refine ⟨?_, h2⟩
  rw [BitVec.toNat_ofInt]
  have : (Int.ofNat m) % ((2 ^ k.bits : Nat) : Int) = ((m % 2 ^ k.bits : Nat) : Int) := by simp
  rw [this]; simp [Nat.mod_eq_of_lt h2]
theorem lim_pow (k : IntKind) : ∃ n, lim k = 2 ^ n ∧ n ≤ k.bits := by
  cases k <;> first
    | exact ⟨7, rfl, by decide⟩ | exact ⟨15, rfl, by decide⟩ | exact ⟨31, rfl, by decide⟩ | exact ⟨63, rfl, by decide⟩
    | exact ⟨8, rfl, by decide⟩ | exact ⟨16, rfl, by decide⟩ | exact ⟨32, rfl, by decide⟩ | exact ⟨64, rfl, by decide⟩
theorem wrap_small {k : IntKind} {m : Nat} (hm : m < lim k) : k.wrap (m : Int) = Int.ofNat m := by
  have := wrapF_eq k (Int.ofNat m)
  unfold wrapF at this
  simp only at this
  have hb : Nat.blt m (lim k) = true := by simpa [Nat.blt_eq] using hm
  rw [hb] at this
  exact this.symm

theorem bitF_and {k : IntKind} {x y z : Int} (hz : bitF Nat.land k x y = some z) : k.wrap (BitVec.ofInt k.bits x &&& BitVec.ofInt k.bits y).toNat = z := by
  unfold bitF at hz
  split at hz
  · rename_i m n
    split at hz
    · rename_i h1
      split at hz
      · rename_i h2
        injection hz with hz; subst hz
        have h1 : m < lim k := by simpa [Nat.blt_eq] using h1
        have h2 : n < lim k := by simpa [Nat.blt_eq] using h2
        rw [BitVec.toNat_and, (bv_nat h1).1, (bv_nat h2).1]
        obtain ⟨p, hp, _⟩ := lim_pow k
        exact wrap_small (by rw [hp]; rw [hp] at h1 h2; exact Nat.and_lt_two_pow _ h2)
      · cases hz
    · cases hz
  · cases hz
theorem bitF_or {k : IntKind} {x y z : Int} (hz : bitF Nat.lor k x y = some z) : k.wrap (BitVec.ofInt k.bits x ||| BitVec.ofInt k.bits y).toNat = z := by
  unfold bitF at hz
  split at hz
  · rename_i m n
    split at hz
    · rename_i h1
      split at hz
      · rename_i h2
        injection hz with hz; subst hz
        have h1 : m < lim k := by simpa [Nat.blt_eq] using h1
        have h2 : n < lim k := by simpa [Nat.blt_eq] using h2
        rw [BitVec.toNat_or, (bv_nat h1).1, (bv_nat h2).1]
        obtain ⟨p, hp, _⟩ := lim_pow k
        exact wrap_small (by rw [hp]; rw [hp] at h1 h2; exact Nat.or_lt_two_pow h1 h2)
      · cases hz
    · cases hz
  · cases hz
theorem bitF_xor {k : IntKind} {x y z : Int} (hz : bitF Nat.xor k x y = some z) : k.wrap (BitVec.ofInt k.bits x ^^^ BitVec.ofInt k.bits y).toNat = z := by
  unfold bitF at hz
  split at hz
  · rename_i m n
    split at hz
    · rename_i h1
      split at hz
      · rename_i h2
        injection hz with hz; subst hz
        have h1 : m < lim k := by simpa [Nat.blt_eq] using h1
        have h2 : n < lim k := by simpa [Nat.blt_eq] using h2
        rw [BitVec.toNat_xor, (bv_nat h1).1, (bv_nat h2).1]
        obtain ⟨p, hp, _⟩ := lim_pow k
        exact wrap_small (by rw [hp]; rw [hp] at h1 h2; exact Nat.xor_lt_two_pow h1 h2)
      · cases hz
    · cases hz
  · cases hz

/-- What a binary op comes to, the operands told. -/
def BG (P : Program) (op : BinOp) (t : TypeId) (x y : Operand) (u w' : Value) (w : World) : Res → Prop
  | .no => True
  | .pure (.v z) => ((do eqGuard op t x y u w'; binOp op t u w') : Sem Value).run P w = .ok z w
  | _ => False
theorem binG_ok {op : BinOp} {t : TypeId} {x y : Operand} {u v : Value} : BG X.P op t x y u v w (binG X op t x y u v) := by
  unfold binG
  cases hp : pureRun X.P (do eqGuard op t x y u v; binOp op t u v) with
  | none => trivial
  | some z => exact pureRun_ok hp w
theorem pI_ok {op : BinOp} {t : TypeId} {x y : Operand} {u v : Value} {k : IntKind} {z : Option Int} (hz : ∀ n, z = some n → ((do eqGuard op t x y u v; binOp op t u v) : Sem Value).run X.P w = .ok (.int k n) w) : BG X.P op t x y u v w (pI k z) := by
  cases z with
  | none => trivial
  | some n => exact hz n rfl
theorem binI_ok {op : BinOp} {t : TypeId} {x y : Operand} {k : IntKind} {m n : Int} : BG X.P op t x y (.int k m) (.int k n) w (binI op k m n) := by
  cases op with
  | add => simp [binI, BG, eqGuard, binOp, Op.intArith, wrapF_eq] <;> rfl
  | sub => simp [binI, BG, eqGuard, binOp, Op.intArith, wrapF_eq] <;> rfl
  | mul => simp [binI, BG, eqGuard, binOp, Op.intArith, wrapF_eq] <;> rfl
  | quo =>
    simp only [binI]
    cases hb : eqI n 0 with
    | true => trivial
    | false =>
      rw [eqI_eq] at hb
      have : n ≠ 0 := by simpa using hb
      simp [BG, eqGuard, binOp, Op.intDiv, this, wrapF_eq]
  | rem =>
    simp only [binI]
    cases hb : eqI n 0 with
    | true => trivial
    | false =>
      rw [eqI_eq] at hb
      have : n ≠ 0 := by simpa using hb
      simp [BG, eqGuard, binOp, Op.intDiv, this]
  | and => exact pI_ok fun z hz => by simp only [eqGuard, binOp, Op.intBits, bitF_and hz]; simp
  | or => exact pI_ok fun z hz => by simp only [eqGuard, binOp, Op.intBits, bitF_or hz]; simp
  | xor => exact pI_ok fun z hz => by simp only [eqGuard, binOp, Op.intBits, bitF_xor hz]; simp
  | shl => trivial
  | shr => trivial
  | andNot => trivial
  | eql => simp only [binI, pB, BG, eqI_eq]; simp only [eqGuard, binOp, Op.intCmp]; by_cases hh : m = n <;> simp [hh]
  | neq => simp only [binI, pB, BG, eqI_eq]; simp only [eqGuard, binOp, Op.intCmp]; by_cases hh : m = n <;> simp [hh]
  | lss => simp only [binI, pB, BG, ltI_eq]; simp [eqGuard, binOp, Op.intCmp]
  | leq => simp only [binI, pB, BG, ltI_eq]; simp only [eqGuard, binOp, Op.intCmp]; by_cases hh : n < m <;> simp [hh, Int.not_le] <;> omega
  | gtr => simp only [binI, pB, BG, ltI_eq]; simp [eqGuard, binOp, Op.intCmp]
  | geq => simp only [binI, pB, BG, ltI_eq]; simp only [eqGuard, binOp, Op.intCmp]; by_cases hh : m < n <;> simp [hh, Int.not_le] <;> omega
theorem orElse_ok {op : BinOp} {t : TypeId} {x y : Operand} {u v : Value} {r : Res} {f : Unit → Res} (h1 : BG X.P op t x y u v w r) (h2 : BG X.P op t x y u v w (f ())) : BG X.P op t x y u v w (orElse r f) := by
  unfold orElse
  cases r <;> first | exact h2 | exact h1
theorem binII_ok {op : BinOp} {t : TypeId} {x y : Operand} {k k' : IntKind} {m n : Int} : BG X.P op t x y (.int k m) (.int k' n) w (binII X op t x y k m k' n) := by
  have gen : BG X.P op t x y (.int k m) (.int k' n) w (match Nat.beq (ikN k) (ikN k') with | true => orElse (binI op k m n) fun _ => binG X op t x y (.int k m) (.int k' n) | false => .no) := by
    cases hb : Nat.beq (ikN k) (ikN k') with
    | false => trivial
    | true =>
      have := ikN_inj hb
      subst this
      exact orElse_ok binI_ok binG_ok
  cases op with
  | shl =>
    refine orElse_ok (f := fun _ => binG X _ t x y _ _) (pI_ok fun z hz => ?_) binG_ok
    unfold shlF at hz
    split at hz
    · rename_i p q
      split at hz
      · rename_i hq
        injection hz with hz; subst hz
        have hq : q ≤ k.bits := Nat.le_of_ble_eq_true hq
        have hneg : ¬ (Int.ofNat q < 0) := by simp
        simp only [eqGuard, binOp, Op.shift, hneg, if_false, wrapF_eq]
        simp [Nat.min_eq_left hq]
      · cases hz
    · cases hz
  | shr =>
    refine orElse_ok (f := fun _ => binG X _ t x y _ _) (pI_ok fun z hz => ?_) binG_ok
    unfold shrF at hz
    split at hz
    · rename_i p q
      split at hz
      · rename_i hq
        injection hz with hz; subst hz
        have hq : q ≤ k.bits := Nat.le_of_ble_eq_true hq
        have hneg : ¬ (Int.ofNat q < 0) := by simp
        have e1 : min (Int.ofNat q).toNat k.bits = q := by simp [Nat.min_eq_left hq]
        have e2 : (Int.ofNat p).fdiv (2 ^ q) = Int.ofNat (p / 2 ^ q) := by
          have : (2 : Int) ^ q = ((2 ^ q : Nat) : Int) := by simp
          rw [this]
          exact (Int.ofNat_fdiv p (2 ^ q)).symm
        simp only [eqGuard, binOp, Op.shift, hneg, if_false, e1, e2]
        rfl
      · cases hz
    · cases hz
  | _ => exact gen

theorem binVV_ok {op : BinOp} {t : TypeId} {x y : Operand} {u v : Value} : BG X.P op t x y u v w (binVV X op t x y u v) := by
  unfold binVV
  split
  · split
    · exact binII_ok
    · trivial
  · exact binG_ok

/-! ## nil -/

theorem nilPair_inv {u : TypeDesc} {c av : AV} (hp : nilPair u c av = true) :
    (∃ e, u = .pointer e ∧ c = .v (.pointer none) ∧ ∃ b f, av = .ptr b f) ∨ (∃ e l k, u = .slice e ∧ c = .v (.slice none l k) ∧ ((∃ b e0 sz n cp, av = .sl b e0 sz n cp) ∨ av = .slz)) ∨
    (∃ e k, u = .map e k ∧ c = .v (.map none) ∧ ∃ b, av = .map b) ∨ (∃ p q r, u = .func p q r ∧ c = .v .nilFunc ∧ ∃ f p q, av = .fn f p q) ∨ (∃ ms, u = .interface ms ∧ c = .v .nilIface ∧ ∃ t v, av = .iface t v) := by
  unfold nilPair at hp
  split at hp
  · exact .inl ⟨_, rfl, rfl, _, _, rfl⟩
  · exact .inr (.inl ⟨_, _, _, rfl, rfl, .inl ⟨_, _, _, _, _, rfl⟩⟩)
  · exact .inr (.inl ⟨_, _, _, rfl, rfl, .inr rfl⟩)
  · exact .inr (.inr (.inl ⟨_, _, rfl, rfl, _, rfl⟩))
  · exact .inr (.inr (.inr (.inl ⟨_, _, _, rfl, rfl, _, _, _, rfl⟩)))
  · exact .inr (.inr (.inr (.inr ⟨_, rfl, rfl, _, _, rfl⟩)))
  · cases hp
theorem eqn {P : Program} {t : TypeId} {u : TypeDesc} {z z' : Value} (hu : P.underlying t = some u) (n : Nat)
    (hz : (∃ e p, u = .pointer e ∧ z = .pointer none ∧ z' = .pointer (some p)) ∨ (∃ e l k p l' k', u = .slice e ∧ z = .slice none l k ∧ z' = .slice (some p) l' k') ∨ (∃ e k g, u = .map e k ∧ z = .map none ∧ z' = .map (some g)) ∨
      (∃ p q r f c d, u = .func p q r ∧ z = .nilFunc ∧ z' = .func f c d) ∨ (∃ ms t v, u = .interface ms ∧ z = .nilIface ∧ z' = .iface t v)) :
    (Op.equalIn (n + 1) t z z').run P w = .ok false w ∧ (Op.equalIn (n + 1) t z' z).run P w = .ok false w := by
  rcases hz with ⟨e, p, rfl, rfl, rfl⟩ | ⟨e, l, k, p, l', k', rfl, rfl, rfl⟩ | ⟨e, k, g, rfl, rfl, rfl⟩ | ⟨p, q, r, f, c, d, rfl, rfl, rfl⟩ | ⟨ms, t, v, rfl, rfl, rfl⟩ <;> constructor <;> simp [Op.equalIn, run_underlying hu]
theorem eqn' {P : Program} {t : TypeId} {u : TypeDesc} {z z' : Value} (hu : P.underlying t = some u)
    (hz : (∃ e p, u = .pointer e ∧ z = .pointer none ∧ z' = .pointer (some p)) ∨ (∃ e l k p l' k', u = .slice e ∧ z = .slice none l k ∧ z' = .slice (some p) l' k') ∨ (∃ e k g, u = .map e k ∧ z = .map none ∧ z' = .map (some g)) ∨
      (∃ p q r f c d, u = .func p q r ∧ z = .nilFunc ∧ z' = .func f c d) ∨ (∃ ms t v, u = .interface ms ∧ z = .nilIface ∧ z' = .iface t v)) :
    (Op.equal t z z').run P w = .ok false w ∧ (Op.equal t z' z).run P w = .ok false w := eqn hu 9999 hz
theorem nil_run0 {P : Program} {op : BinOp} {t : TypeId} {x y : Operand} {u : TypeDesc} {z z' : Value} {r : Bool} (hu : P.underlying t = some u) (hop : op = .eql ∧ r = false ∨ op = .neq ∧ r = true)
    (hz : (∃ e p, u = .pointer e ∧ z = .pointer none ∧ z' = .pointer (some p)) ∨ (∃ e l k p l' k', u = .slice e ∧ z = .slice none l k ∧ z' = .slice (some p) l' k') ∨ (∃ e k g, u = .map e k ∧ z = .map none ∧ z' = .map (some g)) ∨
      (∃ p q r f c d, u = .func p q r ∧ z = .nilFunc ∧ z' = .func f c d) ∨ (∃ ms t v, u = .interface ms ∧ z = .nilIface ∧ z' = .iface t v)) :
    ((do eqGuard op t x y z z'; binOp op t z z') : Sem Value).run P w = .ok (.bool r) w ∧ ((do eqGuard op t x y z' z; binOp op t z' z) : Sem Value).run P w = .ok (.bool r) w := by
  obtain ⟨h1, h2⟩ := eqn' (w := w) hu hz
  rcases hz with ⟨e, p, rfl, rfl, rfl⟩ | ⟨e, l, k, p, l', k', rfl, rfl, rfl⟩ | ⟨e, k, g, rfl, rfl, rfl⟩ | ⟨p, q, r, f, c, d, rfl, rfl, rfl⟩ | ⟨ms, t, v, rfl, rfl, rfl⟩ <;> rcases hop with ⟨rfl, rfl⟩ | ⟨rfl, rfl⟩ <;> constructor <;> simp [eqGuard, binOp, h1, h2]
theorem nil_run {P : Program} {op : BinOp} {t : TypeId} {x y : Operand} {u : TypeDesc} {c av : AV} {z z' : Value} {r : Bool} (hu : P.underlying t = some u) (hp : nilPair u c av = true) (hop : op = .eql ∧ r = false ∨ op = .neq ∧ r = true)
    (hc : (c = .v z ∧ IV γ av z') ∨ (c = .v z' ∧ IV γ av z)) : ((do eqGuard op t x y z z'; binOp op t z z') : Sem Value).run P w = .ok (.bool r) w := by
  have key : ∀ n m, c = .v n → IV γ av m → (∃ e p, u = .pointer e ∧ n = .pointer none ∧ m = .pointer (some p)) ∨ (∃ e l k p l' k', u = .slice e ∧ n = .slice none l k ∧ m = .slice (some p) l' k') ∨ (∃ e k g, u = .map e k ∧ n = .map none ∧ m = .map (some g)) ∨
      (∃ p q r f c d, u = .func p q r ∧ n = .nilFunc ∧ m = .func f c d) ∨ (∃ ms t v, u = .interface ms ∧ n = .nilIface ∧ m = .iface t v) := by
    intro n m hn hm
    rcases nilPair_inv hp with ⟨e, rfl, hq, b, f, rfl⟩ | ⟨e, l, k, rfl, hq, hav⟩ | ⟨e, k, rfl, hq, b, rfl⟩ | ⟨p, q, s, rfl, hq, f, p', q', rfl⟩ | ⟨ms, rfl, hq, t', v', rfl⟩
    · rw [hq] at hn; injection hn with hn; simp only [IV] at hm; obtain ⟨g, c, _, rfl⟩ := hm; exact .inl ⟨_, _, rfl, hn.symm, rfl⟩
    · rw [hq] at hn; injection hn with hn
      rcases hav with ⟨b, e0, sz, n, cp, rfl⟩ | rfl
      · simp only [IV] at hm; obtain ⟨g, c, _, rfl⟩ := hm; exact .inr (.inl ⟨_, _, _, _, _, _, rfl, hn.symm, rfl⟩)
      · simp only [IV] at hm; obtain ⟨g, c, rfl⟩ := hm; exact .inr (.inl ⟨_, _, _, _, _, _, rfl, hn.symm, rfl⟩)
    · rw [hq] at hn; injection hn with hn; simp only [IV] at hm; obtain ⟨g, c, _, rfl⟩ := hm; exact .inr (.inr (.inl ⟨_, _, _, rfl, hn.symm, rfl⟩))
    · rw [hq] at hn; injection hn with hn; simp only [IV] at hm; obtain ⟨us, ws, _, _, rfl⟩ := hm; exact .inr (.inr (.inr (.inl ⟨_, _, _, _, _, _, rfl, hn.symm, rfl⟩)))
    · rw [hq] at hn; injection hn with hn; simp only [IV] at hm; obtain ⟨v, _, rfl⟩ := hm; exact .inr (.inr (.inr (.inr ⟨_, _, _, rfl, hn.symm, rfl⟩)))
  rcases hc with ⟨hc, hv⟩ | ⟨hc, hv⟩
  · exact (nil_run0 hu hop (key _ _ hc hv)).1
  · exact (nil_run0 hu hop (key _ _ hc hv)).2
theorem nil_ok (hX : XOk X GK) {op : BinOp} {t t' : TypeId} {x y : Operand} (ho : o.op = .binOp op t x y t') {c av : AV} {z z' : Value}
    (hz : a.eval x = z ∧ a.eval y = z') (hc : (c = .v z ∧ IV γ av z') ∨ (c = .v z' ∧ IV γ av z)) : Good X.P K M γ h w0 a w o (nilCmp X op t c av) := by
  unfold nilCmp
  cases ht : X.TT t with
  | none => trivial
  | some ti =>
    have hu := (hX.tt t ti ht).und
    simp only
    cases hp : nilPair ti.u c av with
    | false => trivial
    | true =>
      cases op <;> first
        | trivial
        | (refine ⟨_, ?_, iv_v.2 rfl⟩
           have := nil_run (γ := γ) (w := w) (x := x) (y := y) hu hp (.inl ⟨rfl, rfl⟩) hc
           simp only [execOp, ho, hz.1, hz.2]
           simp only [Sem.run_bind] at this ⊢
           simp [this]
           done)
        | (refine ⟨_, ?_, iv_v.2 rfl⟩
           have := nil_run (γ := γ) (w := w) (x := x) (y := y) hu hp (.inr ⟨rfl, rfl⟩) hc
           simp only [execOp, ho, hz.1, hz.2]
           simp only [Sem.run_bind] at this ⊢
           simp [this]
           done)
theorem bg_ok {op : BinOp} {t t' : TypeId} {x y : Operand} (ho : o.op = .binOp op t x y t') {u v : Value} (hz : a.eval x = u ∧ a.eval y = v) {r : Res} (hr : BG X.P op t x y u v w r) : Good X.P K M γ h w0 a w o r := by
  cases r with
  | pure z =>
    cases z with
    | v z =>
      refine ⟨z, ?_, iv_v.2 rfl⟩
      have hr : ((do eqGuard op t x y u v; binOp op t u v) : Sem Value).run X.P w = .ok z w := hr
      simp only [execOp, ho, hz.1, hz.2]
      simp only [Sem.run_bind] at hr ⊢
      simp [hr]
    | _ => exact hr.elim
  | no => trivial
  | _ => exact hr.elim
theorem oBin_ok (hX : XOk X GK) (hE : EnvR γ ρ a) {op : BinOp} {t t' : TypeId} {x y : Operand} (ho : o.op = .binOp op t x y t') : Good X.P K M γ h w0 a w o (oBin X ρ op t x y) := by
  unfold oBin
  cases hx : evO ρ x with
  | none => trivial
  | some p =>
    cases hy : evO ρ y with
    | none => trivial
    | some q =>
      simp only
      have h1 := ev_ok hE hx
      have h2 := ev_ok hE hy
      unfold binAV
      split
      · split
        · exact bg_ok ho ⟨iv_v.1 h1, iv_v.1 h2⟩ binVV_ok
        · exact nil_ok hX ho ⟨rfl, rfl⟩ (.inl ⟨by rw [iv_v.1 h1], h2⟩)
      · split
        · exact nil_ok hX ho ⟨rfl, rfl⟩ (.inr ⟨by rw [iv_v.1 h2], h1⟩)
        · trivial

/-! ## Addresses -/

theorem run_typeInfo {P : Program} {t : TypeId} {i : TypeInfo} (hi : P.info? t = some i) (w : World) : (typeInfo t).run P w = .ok i w := by simp [typeInfo, hi]
theorem run_sizeOf' {P : Program} {t : TypeId} {ti : TI} (ht : TOk P t ti) (w : World) : (sizeOf t).run P w = .ok ti.sz w := by
  obtain ⟨i, h1, h2, _⟩ := ht.info
  simp [sizeOf, typeInfo, h1, h2]
theorem run_zero' {P : Program} {t : TypeId} {ti : TI} (ht : TOk P t ti) (w : World) : (zeroValue t).run P w = .ok ti.zero w := by
  obtain ⟨i, h1, _, _, h2⟩ := ht.info
  simp [zeroValue, typeInfo, h1, h2]
theorem run_isAgg' {P : Program} {t : TypeId} {ti : TI} (ht : TOk P t ti) (w : World) : (isAgg t).run P w = .ok ti.agg w := by
  rw [ht.agg]
  simp only [isAgg, Sem.run_bind, run_underlying ht.und, Result.andThen]
  cases ti.u <;> rfl
theorem addr_add' (b f n : Nat) : (⟨b, f, none⟩ : Addr).add n = ⟨b, f + n, none⟩ := by unfold Addr.add; split <;> simp_all

theorem fieldOf_ok (hX : XOk X GK) {t : TypeId} {i : Nat} {f : Field} {fi : TI} (hf : fieldOf X t i = some (f, fi)) : ∃ fs, X.P.underlying t = some (.struct fs) ∧ fs[i]? = some f ∧ TOk X.P f.type fi := by
  unfold fieldOf at hf
  cases ht : X.TT t with
  | none => rw [ht] at hf; cases hf
  | some ti =>
    rw [ht] at hf
    have hu := (hX.tt t ti ht).und
    simp only at hf
    split at hf
    · rename_i fs hfs
      rw [hfs] at hu
      split at hf
      · rename_i f' hf'
        split at hf
        · rename_i fi' hfi
          injection hf with hf; injection hf with e1 e2; subst e1; subst e2
          exact ⟨fs, hu, by simpa using hf', hX.tt _ _ hfi⟩
        · cases hf
      · cases hf
    · cases hf
theorem oFieldAddr_ok (hX : XOk X GK) (hE : EnvR γ ρ a) {t : TypeId} {x : Operand} {i : Nat} (ho : o.op = .fieldAddr t x i) : Good X.P K M γ h w0 a w o (oFieldAddr X ρ o t x i) := by
  unfold oFieldAddr
  split
  · rename_i b off hx
    split
    · rename_i f fi hf
      obtain ⟨fs, hu, hfs, ht⟩ := fieldOf_ok hX hf
      split
      · trivial
      · rename_i n hn
        have h1 := ev_ok hE hx
        simp only [IV] at h1
        obtain ⟨g, c, hg, he⟩ := h1
        have hz : fi.sz ≠ 0 := by omega
        refine ⟨.pointer (some ⟨g, off + f.offset, none⟩), ?_, by simp only [IV]; exact ⟨g, c, hg, rfl⟩⟩
        simp [execOp, ho, he, Instr.fieldAt, run_underlying hu, hfs, Instr.sureAddr, fieldPlace, run_sizeOf' ht, hz, addr_add']
    · trivial
  · exact gen_ok hE (by rw [ho]; trivial)

theorem elemTI_ok (hX : XOk X GK) {t : TypeId} {ei : TI} (he : elemTI X t = some ei) : ∃ e, X.P.underlying t = some (.slice e) ∧ TOk X.P e ei := by
  unfold elemTI at he
  cases ht : X.TT t with
  | none => rw [ht] at he; cases he
  | some ti =>
    rw [ht] at he
    have hu := (hX.tt t ti ht).und
    simp only at he
    split at he
    · rename_i e hu'
      rw [hu'] at hu
      exact ⟨e, hu, hX.tt _ _ he⟩
    · cases he
theorem arrTI_ok (hX : XOk X GK) {t : TypeId} {n : Nat} {ei : TI} (he : arrTI X t = some (n, ei)) : ∃ e, X.P.underlying t = some (.array n e) ∧ TOk X.P e ei := by
  unfold arrTI at he
  cases ht : X.TT t with
  | none => rw [ht] at he; cases he
  | some ti =>
    rw [ht] at he
    have hu := (hX.tt t ti ht).und
    simp only at he
    split at he
    · rename_i m e hu'
      rw [hu'] at hu
      split at he
      · rename_i ei' hei
        injection he with he; injection he with e1 e2; subst e1; subst e2
        exact ⟨e, hu, hX.tt _ _ hei⟩
      · cases he
    · cases he
theorem natO_ok (hE : EnvR γ ρ a) {y : Operand} {n : Nat} (hy : natO ρ y = some n) : ∃ k, a.eval y = .int k (n : Int) := by
  unfold natO at hy
  split at hy
  · rename_i k m he
    injection hy with hy; subst hy
    exact ⟨k, ev_v hE he⟩
  · cases hy

theorem oIndexAddr_ok (hX : XOk X GK) (hE : EnvR γ ρ a) {t : TypeId} {x y : Operand} (ho : o.op = .indexAddr t x y) : Good X.P K M γ h w0 a w o (oIndexAddr X ρ o t x y) := by
  unfold oIndexAddr
  split
  · rename_i b e0 sz len cap hx
    split
    · rename_i n hn
      split
      · rename_i ei hei
        obtain ⟨e, hu, ht⟩ := elemTI_ok hX hei
        obtain ⟨k, hk⟩ := natO_ok hE hn
        have h1 := ev_ok hE hx
        simp only [IV] at h1
        obtain ⟨g, c, hg, he⟩ := h1
        unfold ixSl
        split
        · rename_i hlt
          split
          · rename_i hsz
            have hlt : n < len := by simpa [Nat.blt_eq] using hlt
            have hsz : ei.sz = sz := Nat.eq_of_beq_eq_true hsz
            refine ⟨.pointer (some ⟨g, (e0 + n) * sz, none⟩), ?_, by simp only [IV]; exact ⟨g, c, hg, rfl⟩⟩
            have hb : (0 : Int) ≤ (n : Int) ∧ (n : Int) < (len : Int) := by omega
            simp [execOp, ho, he, hk, Instr.indexAt, asIntOf, run_underlying hu, run_sizeOf' ht, hlt, addr_add', hsz, Nat.add_mul]
          · trivial
        · trivial
      · trivial
    · trivial
  · rename_i b off hx
    split
    · rename_i n hn
      split
      · rename_i len ei hei
        obtain ⟨e, hu, ht⟩ := arrTI_ok hX hei
        obtain ⟨k, hk⟩ := natO_ok hE hn
        have h1 := ev_ok hE hx
        simp only [IV] at h1
        obtain ⟨g, c, hg, he⟩ := h1
        unfold ixArr
        split
        · rename_i hlt
          have hlt : n < len := by simpa [Nat.blt_eq] using hlt
          refine ⟨.pointer (some ⟨g, off + n * ei.sz, none⟩), ?_, by simp only [IV]; exact ⟨g, c, hg, rfl⟩⟩
          simp [execOp, ho, he, hk, Instr.indexAt, asIntOf, run_underlying hu, Instr.sureAddr, run_sizeOf' ht, hlt, addr_add']
        · trivial
      · trivial
    · trivial
  · exact gen_ok hE (by rw [ho]; trivial)
end
end Go.EV
