/-
  The rules, an operation each: numbers, tests, text, what lies in blocks that are owned.
-/
import Derived.Test.YthokbcjofkgopaaGreatDoorHlMem
namespace Go.HL
open Go

/-- An operation that turns nothing: its value. -/
def Quiet (P : Program) (N : Nat) (op : Op) (ty : TypeId) (E : Env) (s : Ctx) (v : Value) : Prop :=
  ∀ w0 a w, Sat N w0 E s a w → (execOp a.eval ⟨none, op, ty, "", #[], none⟩).run P w = .ok (.value v) w

/-- An operation that turns memory: its value, and what is known behind it. -/
def Eff (P : Program) (N : Nat) (op : Op) (ty : TypeId) (E : Env) (s : Ctx) (R : Value → Ctx → Prop) : Prop :=
  ∀ w0 a w, Sat N w0 E s a w → ∀ (o : Oper), o.op = op → o.type = ty → ∀ (Qx : Exit → Act → World → Prop) (next : Act → World → Prop),
    (∀ v s' w', R v s' → St s' w0 w' → next (a.put o.dst v) w') → o.wp P a w next Qx

def WL (P : Program) (N : Nat) (ops : Array Oper) (Q : Post) (l : List Oper) (E : Env) (s : Ctx) : Prop :=
  ∀ w0 a w, Sat N w0 E s a w → wpList P ops (lift N w0 Q) l a w

section
variable {P : Program} {N : Nat} {ops : Array Oper} {Q : Post} {E : Env} {s : Ctx} {K : Env → Ctx → Prop} {rest : List Oper}

theorem wl_nil (h : Q .normal E s) : WL P N ops Q [] E s := fun _ _ _ hs => wpList_nil ⟨E, s, hs, h⟩

theorem run_of (a : Act) (o : Oper) : execOp a.eval o = execOp a.eval ⟨none, o.op, o.type, "", #[], none⟩ := rfl

theorem Quiet.wp {op : Op} {ty : TypeId} {v : Value} (h : Quiet P N op ty E s v) {w0 : World} {a : Act} {w : World} (hs : Sat N w0 E s a w) {o : Oper} (ho : o.op = op) (ht : o.type = ty)
    {Qx : Exit → Act → World → Prop} {next : Act → World → Prop} (hn : next (a.put o.dst v) w) : o.wp P a w next Qx := by
  unfold Oper.wp
  rw [run_of, ho, ht, h w0 a w hs]
  exact hn

def upE (d : Option Nat) (v : Value) (E : Env) : Env := match d with | some d => (d, v) :: E | none => E
def dOk (d : Option Nat) (N : Nat) : Bool := match d with | some d => Nat.blt d N | none => true

theorem Sat.up {w0 : World} {s s' : Ctx} {a : Act} {w w' : World} (h : Sat N w0 E s a w) (hs : St s' w0 w') {d : Option Nat} (hd : dOk d N = true) (v : Value) : Sat N w0 (upE d v E) s' (a.put d v) w' := by
  cases d with
  | none => exact h.put_none hs v
  | some d => exact h.put hs hd v

theorem wl_q {d : Nat} {op : Op} {ty : TypeId} {pos : String} {aft : Array Edge} {v : Value} (hd : Nat.blt d N = true) (h : Quiet P N op ty E s v) (k : WL P N ops Q rest ((d, v) :: E) s) :
    WL P N ops Q (⟨some d, op, ty, pos, aft, none⟩ :: rest) E s :=
  fun w0 _a w hs => wpList_plain rfl fun _ hK => h.wp hs rfl rfl (hK _ _ (k w0 _ w (hs.put hs.st hd v)))

theorem wl_e {d : Nat} {op : Op} {ty : TypeId} {pos : String} {aft : Array Edge} {R : Value → Ctx → Prop} (hd : Nat.blt d N = true) (h : Eff P N op ty E s R) (k : ∀ v s', R v s' → WL P N ops Q rest ((d, v) :: E) s') :
    WL P N ops Q (⟨some d, op, ty, pos, aft, none⟩ :: rest) E s :=
  fun w0 a w hs => wpList_plain rfl fun _ hK => h w0 a w hs _ rfl rfl _ _ fun v s' w' hR hst => hK _ _ (k v s' hR w0 _ w' (hs.put hst hd v))

theorem wl_e0 {op : Op} {ty : TypeId} {pos : String} {aft : Array Edge} {R : Value → Ctx → Prop} (h : Eff P N op ty E s R) (k : ∀ v s', R v s' → WL P N ops Q rest E s') :
    WL P N ops Q (⟨none, op, ty, pos, aft, none⟩ :: rest) E s :=
  fun w0 a w hs => wpList_plain rfl fun _ hK => h w0 a w hs _ rfl rfl _ _ fun v s' w' hR hst => hK _ _ (k v s' hR w0 _ w' (hs.put_none hst v))

theorem yielded_of {w0 : World} {a : Act} {w : World} (hs : Sat N w0 E s a w) {j dj : Nat} {b : Bool} (hj : (ops[j]?).bind (·.dst) = some dj) (hb : lk E dj = some (.bool b)) :
    yielded ops a.tmps j = some b := by
  have h := hs.env dj _ hb
  unfold yielded
  rw [hj]
  simp only [Option.bind_some]
  have : a.tmps[dj]? = some (.bool b) := by
    rcases Nat.lt_or_ge dj a.tmps.size with hlt | hge
    · rw [Array.getElem?_eq_getElem hlt]
      congr 1
      simpa [Array.getD, hlt] using h
    · exfalso
      have hz : a.tmps.getD dj undef = undef := by simp [Array.getD, Nat.not_lt.2 hge]
      rw [hz] at h
      simp [undef] at h
  rw [this]

/-- A guarded operation whose guard says yes goes as a bare one. -/
theorem wl_on {d : Option Nat} {op : Op} {ty : TypeId} {pos : String} {aft : Array Edge} {j : Nat} (dj : Nat) {b : Bool}
    (hj : (ops[j]?).bind (·.dst) = some dj) (hb : lk E dj = some (.bool b))
    (h : WL P N ops Q (⟨d, op, ty, pos, aft, none⟩ :: rest) E s) : WL P N ops Q (⟨d, op, ty, pos, aft, some (j, b)⟩ :: rest) E s :=
  fun w0 a w hs => by
    have h1 := h w0 a w hs
    unfold wpList at h1 ⊢
    rw [if_pos (by simp [Region.wanted])] at h1
    rw [if_pos (by simp [Region.wanted, yielded_of hs hj hb])]
    exact h1

theorem wl_off {d : Nat} {op : Op} {ty : TypeId} {pos : String} {aft : Array Edge} {j : Nat} (dj : Nat) {b c : Bool}
    (hj : (ops[j]?).bind (·.dst) = some dj) (hb : lk E dj = some (.bool c)) (hne : (c == b) = false) (hd : Nat.blt d N = true)
    (h : WL P N ops Q rest ((d, undef) :: E) s) : WL P N ops Q (⟨some d, op, ty, pos, aft, some (j, b)⟩ :: rest) E s :=
  fun w0 a w hs => wpList_step fun _ hK => by
    rw [if_neg (by simp [Region.wanted, yielded_of hs hj hb]; simpa using hne)]
    exact hK _ _ (h w0 _ w (hs.put hs.st hd undef))

theorem wl_off0 {op : Op} {ty : TypeId} {pos : String} {aft : Array Edge} {j : Nat} (dj : Nat) {b c : Bool}
    (hj : (ops[j]?).bind (·.dst) = some dj) (hb : lk E dj = some (.bool c)) (hne : (c == b) = false)
    (h : WL P N ops Q rest E s) : WL P N ops Q (⟨none, op, ty, pos, aft, some (j, b)⟩ :: rest) E s :=
  fun w0 a w hs => wpList_step fun _ hK => by
    rw [if_neg (by simp [Region.wanted, yielded_of hs hj hb]; simpa using hne)]
    exact hK _ _ (h w0 _ w (hs.put_none hs.st undef))

theorem WL.weak {l : List Oper} {E1 : Env} {s1 : Ctx} (hE : ESub E1 E) (hs : Wk s s1) (h : WL P N ops Q l E1 s1) : WL P N ops Q l E s :=
  fun w0 a w hst => h w0 a w (hst.weak hE hs)

theorem W.region {id : Nat} {l : List Oper} (h : WL P N l.toArray Q l E s) : W P N (.region id l.toArray false) Q E s :=
  fun w0 a w hs => wp_region_lit (h w0 a w hs)

/-- The state is told otherwise, whatever comes. -/
theorem W.st {c : Code} {s1 : Ctx} (hs : ∀ w0 w, St s w0 w → St s1 w0 w) (h : W P N c Q E s1) : W P N c Q E s :=
  fun w0 a w hst => h w0 a w ⟨hst.defers, hst.size, hst.env, hs _ _ hst.st⟩
theorem WL.st {l : List Oper} {s1 : Ctx} (hs : ∀ w0 w, St s w0 w → St s1 w0 w) (h : WL P N ops Q l E s1) : WL P N ops Q l E s :=
  fun w0 a w hst => h w0 a w ⟨hst.defers, hst.size, hst.env, hs _ _ hst.st⟩
/-- The state tells that there is something. -/
theorem W.ex {c : Code} {ι : Type} {s1 : ι → Ctx} {φ : ι → Prop} (hs : ∀ w0 w, St s w0 w → ∃ i, φ i ∧ St (s1 i) w0 w) (h : ∀ i, φ i → W P N c Q E (s1 i)) : W P N c Q E s :=
  fun w0 a w hst => by
    obtain ⟨i, hi, h1⟩ := hs _ _ hst.st
    exact h i hi w0 a w ⟨hst.defers, hst.size, hst.env, h1⟩
theorem WL.ex {l : List Oper} {ι : Type} {s1 : ι → Ctx} {φ : ι → Prop} (hs : ∀ w0 w, St s w0 w → ∃ i, φ i ∧ St (s1 i) w0 w) (h : ∀ i, φ i → WL P N ops Q l E (s1 i)) : WL P N ops Q l E s :=
  fun w0 a w hst => by
    obtain ⟨i, hi, h1⟩ := hs _ _ hst.st
    exact h i hi w0 a w ⟨hst.defers, hst.size, hst.env, h1⟩

/-- Two ways, by what a slot holds. -/
theorem WL.cases {l : List Oper} (n : Nat) {b : Bool} (hb : lk E n = some (.bool b)) (ht : b = true → WL P N ops Q l ((n, .bool true) :: E) s) (hf : b = false → WL P N ops Q l ((n, .bool false) :: E) s) : WL P N ops Q l E s := by
  intro w0 a w hs
  have key : ∀ c, b = c → Sat N w0 ((n, .bool c) :: E) s a w := fun c hc => ⟨hs.defers, hs.size, fun m v hm => by
    simp only [lk] at hm
    cases he : Nat.beq m n with
    | true =>
      rw [he] at hm
      have : m = n := Nat.eq_of_beq_eq_true he
      subst this; subst hc
      have := hs.env _ _ hb
      rw [this]; simpa using hm
    | false => rw [he] at hm; exact hs.env _ _ hm, hs.st⟩
  cases hc : b with
  | true => exact ht hc w0 a w (key _ hc)
  | false => exact hf hc w0 a w (key _ hc)
theorem W.cases {c : Code} (n : Nat) {b : Bool} (hb : lk E n = some (.bool b)) (ht : b = true → W P N c Q ((n, .bool true) :: E) s) (hf : b = false → W P N c Q ((n, .bool false) :: E) s) : W P N c Q E s := by
  intro w0 a w hs
  have key : ∀ c, b = c → Sat N w0 ((n, .bool c) :: E) s a w := fun c hc => ⟨hs.defers, hs.size, fun m v hm => by
    simp only [lk] at hm
    cases he : Nat.beq m n with
    | true =>
      rw [he] at hm
      have : m = n := Nat.eq_of_beq_eq_true he
      subst this; subst hc
      have := hs.env _ _ hb
      rw [this]; simpa using hm
    | false => rw [he] at hm; exact hs.env _ _ hm, hs.st⟩
  cases hc : b with
  | true => exact ht hc w0 a w (key _ hc)
  | false => exact hf hc w0 a w (key _ hc)

/-- The two ways of a region meet: what slot n holds. -/
theorem W.join {x y : Code} (n : Nat) (v : Value) (h : W P N x (QThen (fun E' s' => lk E' n = some v ∧ ESub E E' ∧ Wk s' s) Q) E s) (h2 : W P N y Q ((n, v) :: E) s) : W P N (.seq x y) Q E s :=
  W.seq_mid (fun E' s' => lk E' n = some v ∧ ESub E E' ∧ Wk s' s) h fun E' _s' ⟨h1, hE, hs⟩ => h2.weak (show ESub ((n, v) :: E) E' from And.intro h1 hE) hs

/-- The values of operands, one by one. -/
def EvL (E : Env) : List Operand → List Value → Prop
  | [], [] => True
  | x :: xs, v :: vs => Ev E x = some v ∧ EvL E xs vs
  | _, _ => False

theorem evl {w0 : World} {a : Act} {w : World} (hs : Sat N w0 E s a w) : ∀ {l : List Operand} {vs : List Value}, EvL E l vs → l.map a.eval = vs := by
  intro l
  induction l with
  | nil =>
    intro vs h
    cases vs with
    | nil => rfl
    | cons _ _ => exact h.elim
  | cons x l ih =>
    intro vs h
    cases vs with
    | nil => exact h.elim
    | cons v vs => simp [hs.ev h.1, ih h.2]

/-! ## Plain operations -/

variable {ty : TypeId} {v : Value}

theorem q_move {x : Operand} (hx : Ev E x = some v)  : Quiet P N (.move x) ty E s (v) :=
  (fun _ a w hs => by simp [execOp, hs.ev hx])
theorem q_assign {x : Operand} (hx : Ev E x = some v)  : Quiet P N (.assign x) ty E s (v) :=
  (fun _ a w hs => by simp [execOp, hs.ev hx])
theorem q_pick_t {c x y : Operand} (hc : Ev E c = some (.bool true)) (hx : Ev E x = some v)  : Quiet P N (.pick c x y) ty E s (v) :=
  (fun _ a w hs => by simp [execOp, hs.ev hx, hs.ev hc, asBool])
theorem q_pick_f {c x y : Operand} (hc : Ev E c = some (.bool false)) (hy : Ev E y = some v)  : Quiet P N (.pick c x y) ty E s (v) :=
  (fun _ a w hs => by simp [execOp, hs.ev hy, hs.ev hc, asBool])
theorem q_extract {x : Operand} {vs : Array Value} {i : Nat} (hx : Ev E x = some (.tuple vs)) (hi : vs[i]? = some v)  : Quiet P N (.extract x i) ty E s (v) :=
  (fun _ a w hs => by simp [execOp, hs.ev hx, Instr.extract, hi])
theorem q_nilCheck {x : Operand} {p : Addr} (hx : Ev E x = some (.pointer (some p)))  : Quiet P N (.nilCheck x) ty E s (.pointer (some p)) :=
  (fun _ a w hs => by simp [execOp, hs.ev hx])
theorem q_makeFunc {fn : Fn} {first cap : Array Operand} {f1 c1 : List Value} (hf : EvL E first.toList f1) (hc : EvL E cap.toList c1) :
    Quiet P N (.makeFunc fn first cap) ty E s (.func fn f1.toArray c1.toArray) := by
  refine fun w0 a w hs => ?_
  have h1 := evl hs hf
  have h2 := evl hs hc
  simp only [execOp, Instr.makeFunc, Sem.run_bind, Sem.run_pure, Result.andThen]
  rw [← h1, ← h2]
  simp [← List.map_toArray]

/-! ## Numbers -/

theorem q_add {t1 t2 : TypeId} {x y : Operand} {kd : IntKind} {a b z : Int} (hx : Ev E x = some (.int kd a)) (hy : Ev E y = some (.int kd b)) (hz : kd.wrap (a + b) = z)
     : Quiet P N (.binOp .add t1 x y t2) ty E s (.int kd z) :=
  (fun _ a w hs => by simp [execOp, hs.ev hx, hs.ev hy, eqGuard, binOp, Op.intArith, hz])
theorem q_sub {t1 t2 : TypeId} {x y : Operand} {kd : IntKind} {a b z : Int} (hx : Ev E x = some (.int kd a)) (hy : Ev E y = some (.int kd b)) (hz : kd.wrap (a - b) = z)
     : Quiet P N (.binOp .sub t1 x y t2) ty E s (.int kd z) :=
  (fun _ a w hs => by simp [execOp, hs.ev hx, hs.ev hy, eqGuard, binOp, Op.intArith, hz])
theorem q_mul {t1 t2 : TypeId} {x y : Operand} {kd : IntKind} {a b z : Int} (hx : Ev E x = some (.int kd a)) (hy : Ev E y = some (.int kd b)) (hz : kd.wrap (a * b) = z)
     : Quiet P N (.binOp .mul t1 x y t2) ty E s (.int kd z) :=
  (fun _ a w hs => by simp [execOp, hs.ev hx, hs.ev hy, eqGuard, binOp, Op.intArith, hz])
theorem q_quo {t1 t2 : TypeId} {x y : Operand} {kd : IntKind} {a b z : Int} (hx : Ev E x = some (.int kd a)) (hy : Ev E y = some (.int kd b)) (hb : b ≠ 0) (hz : kd.wrap (a.tdiv b) = z)
     : Quiet P N (.binOp .quo t1 x y t2) ty E s (.int kd z) :=
  (fun _ a w hs => by simp [execOp, hs.ev hx, hs.ev hy, eqGuard, binOp, Op.intDiv, hz, hb])
theorem q_rem {t1 t2 : TypeId} {x y : Operand} {kd : IntKind} {a b z : Int} (hx : Ev E x = some (.int kd a)) (hy : Ev E y = some (.int kd b)) (hb : b ≠ 0) (hz : a.tmod b = z)
     : Quiet P N (.binOp .rem t1 x y t2) ty E s (.int kd z) :=
  (fun _ a w hs => by simp [execOp, hs.ev hx, hs.ev hy, eqGuard, binOp, Op.intDiv, hz, hb])
theorem q_and {t1 t2 : TypeId} {x y : Operand} {kd : IntKind} {a b z : Int} (hx : Ev E x = some (.int kd a)) (hy : Ev E y = some (.int kd b)) (hz : kd.wrap (BitVec.ofInt kd.bits a &&& BitVec.ofInt kd.bits b).toNat = z)
     : Quiet P N (.binOp .and t1 x y t2) ty E s (.int kd z) :=
  (fun _ a w hs => by simp only [execOp, hs.ev hx, hs.ev hy, eqGuard, binOp, Op.intBits, ← hz]; simp)
theorem q_or {t1 t2 : TypeId} {x y : Operand} {kd : IntKind} {a b z : Int} (hx : Ev E x = some (.int kd a)) (hy : Ev E y = some (.int kd b)) (hz : kd.wrap (BitVec.ofInt kd.bits a ||| BitVec.ofInt kd.bits b).toNat = z)
     : Quiet P N (.binOp .or t1 x y t2) ty E s (.int kd z) :=
  (fun _ a w hs => by simp only [execOp, hs.ev hx, hs.ev hy, eqGuard, binOp, Op.intBits, ← hz]; simp)
theorem q_xor {t1 t2 : TypeId} {x y : Operand} {kd : IntKind} {a b z : Int} (hx : Ev E x = some (.int kd a)) (hy : Ev E y = some (.int kd b)) (hz : kd.wrap (BitVec.ofInt kd.bits a ^^^ BitVec.ofInt kd.bits b).toNat = z)
     : Quiet P N (.binOp .xor t1 x y t2) ty E s (.int kd z) :=
  (fun _ a w hs => by simp only [execOp, hs.ev hx, hs.ev hy, eqGuard, binOp, Op.intBits, ← hz]; simp)
theorem q_shl {t1 t2 : TypeId} {x y : Operand} {kd ky : IntKind} {a b z : Int} (hx : Ev E x = some (.int kd a)) (hy : Ev E y = some (.int ky b)) (hb : ¬ b < 0) (hz : kd.wrap (a * 2 ^ (min b.toNat kd.bits)) = z)
     : Quiet P N (.binOp .shl t1 x y t2) ty E s (.int kd z) :=
  (fun _ a w hs => by simp only [execOp, hs.ev hx, hs.ev hy, eqGuard, binOp, Op.shift, hb, if_false, ← hz]; simp)
theorem q_shr {t1 t2 : TypeId} {x y : Operand} {kd ky : IntKind} {a b z : Int} (hx : Ev E x = some (.int kd a)) (hy : Ev E y = some (.int ky b)) (hb : ¬ b < 0) (hz : a.fdiv (2 ^ (min b.toNat kd.bits)) = z)
     : Quiet P N (.binOp .shr t1 x y t2) ty E s (.int kd z) :=
  (fun _ a w hs => by simp only [execOp, hs.ev hx, hs.ev hy, eqGuard, binOp, Op.shift, hb, if_false, ← hz]; simp)

theorem q_lss {t1 t2 : TypeId} {x y : Operand} {kd : IntKind} {a b : Int} (hx : Ev E x = some (.int kd a)) (hy : Ev E y = some (.int kd b))
     : Quiet P N (.binOp .lss t1 x y t2) ty E s (.bool (decide (a < b))) :=
  (fun _ a w hs => by simp [execOp, hs.ev hx, hs.ev hy, eqGuard, binOp, Op.intCmp])
theorem q_leq {t1 t2 : TypeId} {x y : Operand} {kd : IntKind} {a b : Int} (hx : Ev E x = some (.int kd a)) (hy : Ev E y = some (.int kd b))
     : Quiet P N (.binOp .leq t1 x y t2) ty E s (.bool (decide (a ≤ b))) :=
  (fun _ a w hs => by simp [execOp, hs.ev hx, hs.ev hy, eqGuard, binOp, Op.intCmp])
theorem q_gtr {t1 t2 : TypeId} {x y : Operand} {kd : IntKind} {a b : Int} (hx : Ev E x = some (.int kd a)) (hy : Ev E y = some (.int kd b))
     : Quiet P N (.binOp .gtr t1 x y t2) ty E s (.bool (decide (b < a))) :=
  (fun _ a w hs => by simp [execOp, hs.ev hx, hs.ev hy, eqGuard, binOp, Op.intCmp])
theorem q_geq {t1 t2 : TypeId} {x y : Operand} {kd : IntKind} {a b : Int} (hx : Ev E x = some (.int kd a)) (hy : Ev E y = some (.int kd b))
     : Quiet P N (.binOp .geq t1 x y t2) ty E s (.bool (decide (b ≤ a))) :=
  (fun _ a w hs => by simp [execOp, hs.ev hx, hs.ev hy, eqGuard, binOp, Op.intCmp])
theorem q_eql {t1 t2 : TypeId} {x y : Operand} {kd : IntKind} {a b : Int} (hx : Ev E x = some (.int kd a)) (hy : Ev E y = some (.int kd b))
     : Quiet P N (.binOp .eql t1 x y t2) ty E s (.bool (decide (a = b))) :=
  (fun _ a w hs => by simp [execOp, hs.ev hx, hs.ev hy, eqGuard, binOp, Op.intCmp]; rfl)
theorem q_neq {t1 t2 : TypeId} {x y : Operand} {kd : IntKind} {a b : Int} (hx : Ev E x = some (.int kd a)) (hy : Ev E y = some (.int kd b))
     : Quiet P N (.binOp .neq t1 x y t2) ty E s (.bool (decide (a ≠ b))) :=
  (fun _ a' w hs => by
    simp only [execOp, hs.ev hx, hs.ev hy, eqGuard, binOp, Op.intCmp]
    by_cases h : a = b <;> simp [h])
theorem q_not {x : Operand} {b : Bool} {t1 : TypeId} (hx : Ev E x = some (.bool b))  : Quiet P N (.unOp .not t1 x) ty E s (.bool (!b)) :=
  (fun _ a w hs => by simp [execOp, hs.ev hx, Op.unary])
theorem q_neg {x : Operand} {kd : IntKind} {a z : Int} {t1 : TypeId} (hx : Ev E x = some (.int kd a)) (hz : kd.wrap (0 - a) = z)  : Quiet P N (.unOp .neg t1 x) ty E s (.int kd z) :=
  (fun _ a w hs => by simp only [execOp, hs.ev hx, Op.unary, Op.intArith, hz]; simp)

/-! ## Text -/

theorem empty_iff (s : ByteArray) : s = ⟨#[]⟩ ↔ s.size = 0 := by
  constructor
  · rintro rfl; rfl
  · intro h
    have : s.data = #[] := Array.eq_empty_of_size_eq_zero h
    cases s; simp at this; subst this; rfl

theorem seq_dec (a b : ByteArray) : (a.toList == b.toList) = decide (a = b) := by
  rw [ByteArray.toList_eq, ByteArray.toList_eq]
  by_cases h : a = b
  · subst h; simp
  · have : ¬ a.data.toList = b.data.toList := fun hc => h (ByteArray.ext (Array.toList_inj.mp hc))
    rw [decide_eq_false h]; exact beq_eq_false_iff_ne.mpr this
theorem q_seql {t1 t2 : TypeId} {x y : Operand} {a b : ByteArray} (hx : Ev E x = some (.string a)) (hy : Ev E y = some (.string b)) : Quiet P N (.binOp .eql t1 x y t2) ty E s (.bool (decide (a = b))) :=
  (fun _ a w hs => by simp only [execOp, hs.ev hx, hs.ev hy, eqGuard, binOp, Op.stringOp, seq_dec]; simp)
theorem q_sneq {t1 t2 : TypeId} {x y : Operand} {a b : ByteArray} (hx : Ev E x = some (.string a)) (hy : Ev E y = some (.string b)) : Quiet P N (.binOp .neq t1 x y t2) ty E s (.bool (!decide (a = b))) :=
  (fun _ a w hs => by simp only [execOp, hs.ev hx, hs.ev hy, eqGuard, binOp, Op.stringOp, seq_dec]; simp)
theorem q_slss {t1 t2 : TypeId} {x y : Operand} {a b : ByteArray} (hx : Ev E x = some (.string a)) (hy : Ev E y = some (.string b))
     : Quiet P N (.binOp .lss t1 x y t2) ty E s (.bool (Op.bytesLess a.toList b.toList)) :=
  (fun _ a w hs => by simp only [execOp, hs.ev hx, hs.ev hy, eqGuard, binOp, Op.stringOp]; simp)
theorem q_sgtr {t1 t2 : TypeId} {x y : Operand} {a b : ByteArray} (hx : Ev E x = some (.string a)) (hy : Ev E y = some (.string b))
     : Quiet P N (.binOp .gtr t1 x y t2) ty E s (.bool (!(Op.bytesLess a.toList b.toList || a.toList == b.toList))) :=
  (fun _ a w hs => by simp only [execOp, hs.ev hx, hs.ev hy, eqGuard, binOp, Op.stringOp]; simp)
theorem q_sadd {t1 t2 : TypeId} {x y : Operand} {a b : ByteArray} (hx : Ev E x = some (.string a)) (hy : Ev E y = some (.string b)) (hl : a.size + b.size ≤ 9223372036854775807)
     : Quiet P N (.binOp .add t1 x y t2) ty E s (.string (a ++ b)) :=
  (fun _ a' w hs => by
    have : ¬ (((a.size + b.size : Nat) : Int) > IntKind.i64.max) := by simp [IntKind.max, IntKind.signed, IntKind.bits]; omega
    simp only [execOp, hs.ev hx, hs.ev hy, eqGuard, binOp, Op.stringOp, this, if_false]; simp)
theorem q_slen {t : TypeId} {x : Operand} {a : ByteArray} (hu : P.underlying t = some .string) (hx : Ev E x = some (.string a))
     : Quiet P N (.call { callee := .builtin .len, args := #[x], argTypes := #[t] }) ty E s (.int .i64 (a.size : Int)) :=
  (fun _ a w hs => by simp [execOp, hs.ev hx, resolve, invoke, builtin, Builtin.len_, run_underlying hu, goInt])
theorem q_sindex {t : TypeId} {x y : Operand} {a : ByteArray} {kd : IntKind} {i : Nat} {b : UInt8} (hu : P.underlying t = some .string) (hx : Ev E x = some (.string a)) (hy : Ev E y = some (.int kd (i : Int))) (hb : a[i]? = some b)
     : Quiet P N (.index t x y) ty E s (.int .u8 (b.toNat : Int)) :=
  (fun _ a w hs => by simp [execOp, hs.ev hx, hs.ev hy, Instr.index, asIntOf, run_underlying hu, hb])

/-! ## Pointers and blocks -/

theorem run_equalIn_pnil (n : Nat) {t e : TypeId} (p : Option Addr) (h : P.underlying t = some (.pointer e)) (w : World) : (Op.equalIn (n + 1) t (.pointer p) (.pointer none)).run P w = .ok p.isNone w := by
  cases p <;> simp [Op.equalIn, run_underlying h]
theorem run_equal_pnil {t e : TypeId} (p : Option Addr) (h : P.underlying t = some (.pointer e)) (w : World) : (Op.equal t (.pointer p) (.pointer none)).run P w = .ok p.isNone w := run_equalIn_pnil 9999 p h w
theorem run_equalIn_slnil (n : Nat) {t e : TypeId} (p : Option Addr) (l c : Nat) (h : P.underlying t = some (.slice e)) (w : World) : (Op.equalIn (n + 1) t (.slice p l c) (.slice none 0 0)).run P w = .ok p.isNone w := by
  cases p <;> simp [Op.equalIn, run_underlying h]
theorem run_equal_slnil {t e : TypeId} (p : Option Addr) (l c : Nat) (h : P.underlying t = some (.slice e)) (w : World) : (Op.equal t (.slice p l c) (.slice none 0 0)).run P w = .ok p.isNone w := run_equalIn_slnil 9999 p l c h w
theorem run_equalIn_boolv (n : Nat) {t : TypeId} (a b : Bool) (h : P.underlying t = some .bool) (w : World) : (Op.equalIn (n + 1) t (.bool a) (.bool b)).run P w = .ok (a == b) w := by
  simp [Op.equalIn, run_underlying h]
theorem run_equal_boolv {t : TypeId} (a b : Bool) (h : P.underlying t = some .bool) (w : World) : (Op.equal t (.bool a) (.bool b)).run P w = .ok (a == b) w := run_equalIn_boolv 9999 a b h w

theorem q_beql {t1 t2 : TypeId} {x y : Operand} {a b : Bool} (hu : P.underlying t1 = some .bool) (hx : Ev E x = some (.bool a)) (hy : Ev E y = some (.bool b))
     : Quiet P N (.binOp .eql t1 x y t2) ty E s (.bool (a == b)) :=
  (fun _ a w hs => by simp only [execOp, hs.ev hx, hs.ev hy, eqGuard, binOp, Sem.run_bind, Sem.run_pure, Result.andThen, run_equal_boolv _ _ hu]; simp)
theorem q_bneq {t1 t2 : TypeId} {x y : Operand} {a b : Bool} (hu : P.underlying t1 = some .bool) (hx : Ev E x = some (.bool a)) (hy : Ev E y = some (.bool b))
     : Quiet P N (.binOp .neq t1 x y t2) ty E s (.bool (!(a == b))) :=
  (fun _ a w hs => by simp only [execOp, hs.ev hx, hs.ev hy, eqGuard, binOp, Sem.run_bind, Sem.run_pure, Result.andThen, run_equal_boolv _ _ hu]; simp)
theorem q_pnil {t1 t2 e : TypeId} {x : Operand} {p : Option Addr} (hu : P.underlying t1 = some (.pointer e)) (hx : Ev E x = some (.pointer p))
     : Quiet P N (.binOp .eql t1 x (.const (.pointer none)) t2) ty E s (.bool p.isNone) :=
  (fun _ a w hs => by cases p <;> simp [execOp, hs.ev hx, hs.ev (x := .const (.pointer none)) rfl, eqGuard, binOp, run_equal_pnil _ hu])
theorem q_pnonnil {t1 t2 e : TypeId} {x : Operand} {p : Option Addr} (hu : P.underlying t1 = some (.pointer e)) (hx : Ev E x = some (.pointer p))
     : Quiet P N (.binOp .neq t1 x (.const (.pointer none)) t2) ty E s (.bool (!p.isNone)) :=
  (fun _ a w hs => by cases p <;> simp [execOp, hs.ev hx, hs.ev (x := .const (.pointer none)) rfl, eqGuard, binOp, run_equal_pnil _ hu])
theorem q_slnil {t1 t2 e : TypeId} {x : Operand} {p : Option Addr} {l c : Nat} (hu : P.underlying t1 = some (.slice e)) (hx : Ev E x = some (.slice p l c))
     : Quiet P N (.binOp .eql t1 x (.const (.slice none 0 0)) t2) ty E s (.bool p.isNone) :=
  (fun _ a w hs => by simp [execOp, hs.ev hx, hs.ev (x := .const (.slice none 0 0)) rfl, eqGuard, binOp, run_equal_slnil _ _ _ hu])
theorem q_slnonnil {t1 t2 e : TypeId} {x : Operand} {p : Option Addr} {l c : Nat} (hu : P.underlying t1 = some (.slice e)) (hx : Ev E x = some (.slice p l c))
     : Quiet P N (.binOp .neq t1 x (.const (.slice none 0 0)) t2) ty E s (.bool (!p.isNone)) :=
  (fun _ a w hs => by simp [execOp, hs.ev hx, hs.ev (x := .const (.slice none 0 0)) rfl, eqGuard, binOp, run_equal_slnil _ _ _ hu])

theorem addr_add (b o n : Nat) : (⟨b, o, none⟩ : Addr).add n = ⟨b, o + n, none⟩ := by unfold Addr.add; split <;> simp_all

/-- tt: the field's type; oo: its place in the struct; m: where it lies. -/
theorem q_field {t : TypeId} {x : Operand} {fs : Array Field} (tt oo m : Nat) {i b o : Nat} {z : Nat} (hu : P.underlying t = some (.struct fs)) (hf : (fs[i]?).map (fun f => (f.type, f.offset)) = some (tt, oo)) (hz : ∀ w, (sizeOf tt).run P w = .ok z w) (hz0 : Nat.beq z 0 = false)
    (hx : Ev E x = some (.pointer (some ⟨b, o, none⟩))) (hm : o + oo = m)
     : Quiet P N (.fieldAddr t x i) ty E s (.pointer (some ⟨b, m, none⟩)) := by
  obtain ⟨f, hf', he⟩ := Option.map_eq_some_iff.1 hf
  clear hf
  injection he with h1 h2
  subst h1; subst h2
  have hz1 : z ≠ 0 := Nat.ne_of_beq_eq_false hz0
  exact (fun _ a w hs => by simp [execOp, hs.ev hx, Instr.fieldAt, run_underlying hu, hf', Instr.sureAddr, fieldPlace, hz, hz1, addr_add, hm])

theorem q_load1 {t : TypeId} {x : Operand} {gb j : Nat} {cs : List Value} {e : TypeId} {M R : List Own} {Kp : List KP} (ha : ∀ w, (isAgg t).run P w = .ok false w)
    (hx : Ev E x = some (.pointer (some ⟨gb, j, none⟩))) (hs' : Sel (cellsO gb cs e) M R) (hv : cs[j]? = some v)
     : Quiet P N (.load t x) ty E ⟨Kp, M⟩ (v) :=
  (fun _ a w hs => by
    have hc := hs.st.cell hs' j
    rw [hv] at hc
    simp [execOp, hs.ev hx, Instr.loadAt, Instr.sureAddr, loadVar, ha, run_load, hc])

theorem q_loadN {t : TypeId} {x : Operand} {gb j n : Nat} {cs vs : List Value} {e : TypeId} {M R : List Own} {Kp : List KP} (ha : ∀ w, (isAgg t).run P w = .ok true w) (hz : ∀ w, (sizeOf t).run P w = .ok n w)
    (hx : Ev E x = some (.pointer (some ⟨gb, j, none⟩))) (hs' : Sel (cellsO gb cs e) M R) (hv : (cs.drop j).take n = vs) (hn : vs.length = n)
     : Quiet P N (.load t x) ty E ⟨Kp, M⟩ (.agg vs.toArray) :=
  (fun _ a w hs => by
    have hr := run_loads (P := P) hs' hs.st hv hn
    simp [execOp, hs.ev hx, Instr.loadAt, Instr.sureAddr, loadVar, ha, hz, hr])


theorem eff_val {op : Op} {R : Value → Ctx → Prop} (h : ∀ w0 a w, Sat N w0 E s a w → ∃ v s' w', (execOp a.eval ⟨none, op, ty, "", #[], none⟩).run P w = .ok (.value v) w' ∧ R v s' ∧ St s' w0 w') : Eff P N op ty E s R := by
  intro w0 a w hs o ho ht Qx next hn
  obtain ⟨v, s', w', hrun, hR, hst⟩ := h w0 a w hs
  unfold Oper.wp
  rw [run_of, ho, ht, hrun]
  exact hn _ _ _ hR hst
theorem eff_skip {op : Op} {R : Value → Ctx → Prop} (h : ∀ w0 a w, Sat N w0 E s a w → ∃ s' w', (execOp a.eval ⟨none, op, ty, "", #[], none⟩).run P w = .ok .skip w' ∧ R undef s' ∧ St s' w0 w') : Eff P N op ty E s R := by
  intro w0 a w hs o ho ht Qx next hn
  obtain ⟨s', w', hrun, hR, hst⟩ := h w0 a w hs
  unfold Oper.wp
  rw [run_of, ho, ht, hrun]
  exact hn _ _ _ hR hst

theorem cells_one {v : Value} (h1 : v.oneCell' = true) : v.cells = #[v] := by cases v <;> simp_all [Value.cells, Value.oneCell']

/-- A list with one value laid in. -/
inductive SetAt : List Value → Nat → Value → List Value → Prop
  | zero {x v : Value} {xs : List Value} : SetAt (x :: xs) 0 v (v :: xs)
  | succ {x v : Value} {xs ys : List Value} {n : Nat} : SetAt xs n v ys → SetAt (x :: xs) (n + 1) v (x :: ys)
theorem SetAt.spec {cs cs' : List Value} {j : Nat} {v : Value} (h : SetAt cs j v cs') : j < cs.length ∧ cs.set j v = cs' := by
  induction h with
  | zero => exact ⟨by simp, rfl⟩
  | succ _ ih => exact ⟨by simp; exact ih.1, by simp; exact ih.2⟩
inductive SetsAt : List Value → Nat → List Value → List Value → Prop
  | nil {cs : List Value} {j : Nat} : SetsAt cs j [] cs
  | cons {cs cs1 cs2 vs : List Value} {j : Nat} {v : Value} : SetAt cs j v cs1 → SetsAt cs1 (j + 1) vs cs2 → SetsAt cs j (v :: vs) cs2
theorem SetsAt.spec {cs cs' vs : List Value} {j : Nat} (h : SetsAt cs j vs cs') : (vs ≠ [] → j + vs.length ≤ cs.length) ∧ setL cs j vs = cs' := by
  induction h with
  | nil => exact ⟨fun h => absurd rfl h, rfl⟩
  | @cons cs cs1 cs2 vs j v h1 h2 ih =>
    obtain ⟨ha, hb⟩ := h1.spec
    refine ⟨fun _ => ?_, by rw [setL, hb]; exact ih.2⟩
    by_cases hv : vs = []
    · subst hv; simp; omega
    · have := ih.1 hv
      rw [← hb] at this
      simp at this ⊢; omega

theorem e_store1 {t : TypeId} {x y : Operand} {gb j : Nat} {cs cs' : List Value} {e : TypeId} {M R : List Own} {Kp : List KP} (hz : ∀ w, (sizeOf t).run P w = .ok 1 w)
    (hx : Ev E x = some (.pointer (some ⟨gb, j, none⟩))) (hy : Ev E y = some v) (h1 : v.oneCell' = true) (hs' : Sel (cellsO gb cs e) M R) (hcs : SetAt cs j v cs') :
    Eff P N (.store t x y) ty E ⟨Kp, M⟩ (fun v' s' => v' = undef ∧ s' = ⟨Kp, cellsO gb cs' e :: R⟩) :=
  eff_skip fun _ a w hs => by
    have hcell := cells_one h1
    obtain ⟨hj', hcs⟩ := hcs.spec
    obtain ⟨w', hr, hst⟩ := run_stores (P := P) [v] 0 cs M w hs' hs.st j (by simp; omega) (by simpa using h1)
    refine ⟨_, w', ?_, ⟨rfl, rfl⟩, ?_⟩
    · simp [execOp, hs.ev hx, hs.ev hy, Instr.storeAt, Instr.sureAddr, storeVar, hcell, hz, hr]
    · simpa [setL, hcs] using hst

theorem e_storeN {t : TypeId} {x y : Operand} {gb j n : Nat} {cs cs' vs : List Value} {e : TypeId} {M R : List Own} {Kp : List KP} (hz : ∀ w, (sizeOf t).run P w = .ok n w)
    (hx : Ev E x = some (.pointer (some ⟨gb, j, none⟩))) (hy : Ev E y = some (.agg vs.toArray)) (h1 : ∀ v ∈ vs, v.oneCell' = true) (hs' : Sel (cellsO gb cs e) M R) (hn : vs.length = n) (hn0 : Nat.blt 0 n = true) (hcs : SetsAt cs j vs cs') :
    Eff P N (.store t x y) ty E ⟨Kp, M⟩ (fun v' s' => v' = undef ∧ s' = ⟨Kp, cellsO gb cs' e :: R⟩) :=
  eff_skip fun w0 a w hs => by
    subst hn
    obtain ⟨hj', hcs⟩ := hcs.spec
    have hj' := hj' (fun e => by subst e; simp at hn0)
    obtain ⟨w', hr, hst⟩ := run_stores (P := P) vs 0 cs M w hs' hs.st j (by simpa using hj') h1
    refine ⟨_, w', ?_, ⟨rfl, rfl⟩, ?_⟩
    · simp [execOp, hs.ev hx, hs.ev hy, Instr.storeAt, Instr.sureAddr, storeVar, Value.cells, hz, hr]
    · simpa [hcs] using hst

theorem e_alloc {e : TypeId} {z : Value} {cs : List Value} {M : List Own} {Kp : List KP} (hz : ∀ w, (zeroValue e).run P w = .ok z w) (hc : z.cells = cs.toArray) :
    Eff P N (.alloc e) ty E ⟨Kp, M⟩ (fun v' s' => ∃ gb, v' = .pointer (some ⟨gb, 0, none⟩) ∧ s' = ⟨Kp, cellsO gb cs e :: M⟩) :=
  eff_val fun w0 a w hs => by
    refine ⟨_, _, _, ?_, ⟨_, rfl, rfl⟩, hs.st.alloc cs e⟩
    simp [execOp, Instr.alloc, hz, newVar, newRow, hc]

theorem e_box1 {e : TypeId} {x : Operand} {M : List Own} {Kp : List KP} (hx : Ev E x = some v) (h1 : v.oneCell' = true) :
    Eff P N (.box e x) ty E ⟨Kp, M⟩ (fun v' s' => ∃ gb, v' = .pointer (some ⟨gb, 0, none⟩) ∧ s' = ⟨Kp, cellsO gb [v] e :: M⟩) :=
  eff_val fun w0 a w hs => by
    refine ⟨_, _, _, ?_, ⟨_, rfl, rfl⟩, hs.st.alloc [v] e⟩
    simp [execOp, Instr.box, hs.ev hx, newVar, newRow, cells_one h1]
theorem e_boxN {e : TypeId} {x : Operand} {vs : List Value} {M : List Own} {Kp : List KP} (hx : Ev E x = some (.agg vs.toArray)) :
    Eff P N (.box e x) ty E ⟨Kp, M⟩ (fun v' s' => ∃ gb, v' = .pointer (some ⟨gb, 0, none⟩) ∧ s' = ⟨Kp, cellsO gb vs e :: M⟩) :=
  eff_val fun w0 a w hs => by
    refine ⟨_, _, _, ?_, ⟨_, rfl, rfl⟩, hs.st.alloc vs e⟩
    simp [execOp, Instr.box, hs.ev hx, newVar, newRow, Value.cells]
end
end Go.HL
