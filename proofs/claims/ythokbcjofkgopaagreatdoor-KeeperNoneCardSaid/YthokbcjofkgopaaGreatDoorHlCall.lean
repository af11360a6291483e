/-
  Contracts of functions, their proof from the body, their use at a call.
-/
import Derived.Test.YthokbcjofkgopaaGreatDoorHlOps
namespace Go.HL
open Go

/-- What a call asks of memory, and what it comes to; all else that is known or owned stays. -/
def Fn (P : Program) (f : FuncId) (args : List Value) (s : Ctx) (R : Value → Ctx → Prop) : Prop :=
  ∀ (F : Ctx) (w0 w : World), St ⟨s.K ++ F.K, s.M ++ F.M⟩ w0 w →
    Calls P f args.toArray w fun e w' => ∃ v s', e = .returned v ∧ R v s' ∧ St ⟨s'.K ++ F.K, s'.M ++ F.M⟩ w0 w'

inductive Sels : List Own → List Own → List Own → Prop
  | nil {M : List Own} : Sels [] M M
  | cons {o : Own} {os M R R' : List Own} : Sel o M R → Sels os R R' → Sels (o :: os) M R'

theorem Sels.perm {os M R : List Own} (h : Sels os M R) : M.Perm (os ++ R) := by
  induction h with
  | nil => exact .refl _
  | cons h _ ih => exact List.Perm.trans h (ih.cons _)

theorem Fn.mono {P : Program} {f : FuncId} {args : List Value} {s : Ctx} {R R' : Value → Ctx → Prop} (h : Fn P f args s R) (hR : ∀ v s', R v s' → R' v s') : Fn P f args s R' :=
  fun F w0 w hs => (h F w0 w hs).mono fun _ _ ⟨v, s', h1, h2, h3⟩ => ⟨v, s', h1, hR _ _ h2, h3⟩

/-- A contract asked with more than it wants: what is left over stays. -/
theorem Fn.frame {P : Program} {f : FuncId} {args : List Value} {s s1 : Ctx} {R R' : Value → Ctx → Prop} {R1 : List Own} (h : Fn P f args s R) (hK : KSub s.K s1.K) (hM : Sels s.M s1.M R1)
    (hR : ∀ v s', R v s' → R' v ⟨s'.K ++ s1.K, s'.M ++ R1⟩) : Fn P f args s1 R' := by
  intro F w0 w hs
  have hw : St ⟨s.K ++ (s1.K ++ F.K), s.M ++ (R1 ++ F.M)⟩ w0 w := by
    refine hs.weak ⟨fun k hk => ?_, [], ?_⟩
    · rcases List.mem_append.1 hk with hk | hk
      · exact List.mem_append_left _ (hK k hk)
      · exact hk
    · show List.Perm (s1.M ++ F.M) ((s.M ++ (R1 ++ F.M)) ++ [])
      rw [List.append_nil, ← List.append_assoc]
      exact hM.perm.append_right _
  refine (h ⟨s1.K ++ F.K, R1 ++ F.M⟩ w0 w hw).mono ?_
  rintro e w' ⟨v, s', rfl, hv, hst⟩
  exact ⟨v, _, rfl, hR v s' hv, by simpa [List.append_assoc] using hst⟩

section
variable {P : Program} {N : Nat} {E : Env} {ty : TypeId}

theorem take_st {Kp : List KP} {M R1 : List Own} {s1 : Ctx} {w0 w : World} (hK : KSub s1.K Kp) (hM : Sels s1.M M R1) (hs : St ⟨Kp, M⟩ w0 w) : St ⟨s1.K ++ Kp, s1.M ++ R1⟩ w0 w :=
  hs.weak ⟨fun k hk => by
    rcases List.mem_append.1 hk with hk | hk
    · exact hK k hk
    · exact hk, [], by simpa using hM.perm⟩

theorem upon_fn {f : FuncId} {args : List Value} {s1 F : Ctx} {R : Value → Ctx → Prop} {o : Oper} {a : Act} {w w0 : World} {Qx : Exit → Act → World → Prop} {next : Act → World → Prop}
    (hc : Fn P f args s1 R) (hst : St ⟨s1.K ++ F.K, s1.M ++ F.M⟩ w0 w)
    (hn : ∀ v s' w', R v s' → St ⟨s'.K ++ F.K, s'.M ++ F.M⟩ w0 w' → next (a.put o.dst v) w') : o.upon P a next Qx (.ok (.enter f args.toArray) w) := by
  rw [Oper.upon_enter]
  refine (hc F w0 w hst).mono ?_
  rintro e w' ⟨v, s', rfl, hR, hst'⟩
  exact hn v s' w' hR hst'

theorem e_call {f : FuncId} {xs : Array Operand} {ts : Array TypeId} {args : List Value} {s1 : Ctx} {R : Value → Ctx → Prop} {Kp : List KP} {M R1 : List Own}
    (hc : Fn P f args s1 R) (hx : EvL E xs.toList args) (hf : ∀ args w, (callFunc f args).run P w = .ok (.enter f args) w)
    (hK : KSub s1.K Kp) (hM : Sels s1.M M R1) :
    Eff P N (.call { callee := .value (.func f), args := xs, argTypes := ts }) ty E ⟨Kp, M⟩ (fun v s2 => ∃ s', R v s' ∧ s2 = ⟨s'.K ++ Kp, s'.M ++ R1⟩) := by
  intro w0 a w hs o ho ht Qx next hn
  have hargs : xs.map a.eval = args.toArray := Array.ext' (by rw [Array.toList_map]; exact evl hs hx)
  unfold Oper.wp
  have hrun : (execOp a.eval ⟨none, .call { callee := .value (.func f), args := xs, argTypes := ts }, ty, "", #[], none⟩).run P w = .ok (.enter f args.toArray) w := by
    simp only [execOp, resolve, hs.ev (x := .func f) rfl, Deferred.ofValue, Sem.run_bind, Sem.run_pure, Result.andThen, invoke, hargs]
    simp [hf]
  rw [run_of, ho, ht, hrun]
  exact upon_fn (F := ⟨Kp, R1⟩) hc (take_st hK hM hs.st) fun v s' w' hR hst' => hn _ _ _ ⟨s', hR, rfl⟩ hst'

/-- A call of a function value that the walk knows: a closure with what it captured, or a bound method. -/
theorem e_callv {x' : Tmp} {f : FuncId} {f1 c1 : List Value} {xs : Array Operand} {ts : Array TypeId} {args : List Value} {s1 : Ctx} {R : Value → Ctx → Prop} {Kp : List KP} {M R1 : List Own}
    (hv : Ev E (.tmp x') = some (.func (.func f) f1.toArray c1.toArray)) (hx : EvL E xs.toList args) (hc : Fn P f (f1 ++ args ++ c1) s1 R) (hf : ∀ args w, (callFunc f args).run P w = .ok (.enter f args) w)
    (hK : KSub s1.K Kp) (hM : Sels s1.M M R1) :
    Eff P N (.call { callee := .value (.tmp x'), args := xs, argTypes := ts }) ty E ⟨Kp, M⟩ (fun v s2 => ∃ s', R v s' ∧ s2 = ⟨s'.K ++ Kp, s'.M ++ R1⟩) := by
  intro w0 a w hs o ho ht Qx next hn
  have hargs : xs.map a.eval = args.toArray := Array.ext' (by rw [Array.toList_map]; exact evl hs hx)
  unfold Oper.wp
  have hrun : (execOp a.eval ⟨none, .call { callee := .value (.tmp x'), args := xs, argTypes := ts }, ty, "", #[], none⟩).run P w = .ok (.enter f (f1 ++ args ++ c1).toArray) w := by
    simp only [execOp, resolve, hs.ev hv, Deferred.ofValue, Sem.run_bind, Sem.run_pure, Result.andThen, invoke, hargs]
    simp [hf]
  rw [run_of, ho, ht, hrun]
  exact upon_fn (F := ⟨Kp, R1⟩) hc (take_st hK hM hs.st) fun v s' w' hR hst' => hn _ _ _ ⟨s', hR, rfl⟩ hst'
end

/-! ## A contract from the body -/

def argEnv : Nat → List Value → Env
  | _, [] => []
  | i, v :: vs => (i, v) :: argEnv (i + 1) vs

theorem lk_argEnv : ∀ (args : List Value) (i n : Nat) (v : Value), lk (argEnv i args) n = some v → ∃ j, n = i + j ∧ args[j]? = some v
  | [], _, _, _, h => by cases h
  | u :: vs, i, n, v, h => by
    simp only [argEnv, lk] at h
    cases hb : Nat.beq n i with
    | true =>
      rw [hb] at h
      exact ⟨0, by simpa using Nat.eq_of_beq_eq_true hb, by simpa using h⟩
    | false =>
      rw [hb] at h
      obtain ⟨j, h1, h2⟩ := lk_argEnv vs (i + 1) n v h
      exact ⟨j + 1, by omega, by simpa using h2⟩

def RetV (P : Program) (fn : Func) (E : Env) (s : Ctx) (v : Value) : Prop :=
  ∀ N w0 a w, Sat N w0 E s a w → (results fn a.tmps).run P w = .ok v w

def retQ (P : Program) (fn : Func) (FK : List KP) (FM : List Own) (R : Value → Ctx → Prop) : Post
  | .ret, E, s | .normal, E, s => ∃ v s', RetV P fn E s v ∧ R v s' ∧ Wk s ⟨s'.K ++ FK, s'.M ++ FM⟩
  | _, _, _ => False

theorem Fn.of_body {P : Program} {f : FuncId} {fn : Func} {c : Code} {N : Nat} {args : List Value} {s : Ctx} {R : Value → Ctx → Prop}
    (hf : P.funcs[f]? = some fn) (hb : fn.body = some c) (hN : fn.ntmps = N) (hlen : Nat.ble args.length N = true)
    (h : ∀ FK FM, W P N c (retQ P fn FK FM R) (argEnv 0 args) ⟨s.K ++ FK, s.M ++ FM⟩) : Fn P f args s R := by
  intro F w0 w hs
  have hl : args.length ≤ N := by simpa [Nat.ble_eq] using hlen
  refine calls_of_wp hf hb ?_
  have hsat : Sat N w0 (argEnv 0 args) ⟨s.K ++ F.K, s.M ++ F.M⟩ { tmps := args.toArray ++ Array.replicate (fn.ntmps - args.toArray.size) undef, defers := [] } w := by
    refine ⟨rfl, by simp [hN]; omega, ?_, hs⟩
    intro n v hn
    obtain ⟨j, rfl, hj⟩ := lk_argEnv args 0 n v hn
    have hj' : j < args.length := by
      rcases Nat.lt_or_ge j args.length with h' | h'
      · exact h'
      · rw [List.getElem?_eq_none h'] at hj; cases hj
    simp only [Nat.zero_add, Array.getD_eq_getD_getElem?]
    rw [Array.getElem?_append_left (by simpa using hj')]
    simp [hj]
  refine wp_mono (h F.K F.M w0 _ w hsat) ?_
  rintro e a' w' ⟨E', s', hs', hq⟩
  cases e with
  | normal =>
    obtain ⟨v, s2, hv, hR, hw⟩ := hq
    exact ⟨hs'.defers, v, hv _ _ _ _ hs', v, s2, rfl, hR, hs'.st.weak hw⟩
  | ret =>
    obtain ⟨v, s2, hv, hR, hw⟩ := hq
    exact ⟨hs'.defers, v, hv _ _ _ _ hs', v, s2, rfl, hR, hs'.st.weak hw⟩
  | _ => exact hq.elim

section
variable {P : Program} {fn : Func} {FK : List KP} {FM : List Own} {R : Value → Ctx → Prop} {E : Env} {s s' : Ctx}

theorem ret0 (hr : fn.results = #[]) (hR : R (.tuple #[]) s') (hw : Wk s ⟨s'.K ++ FK, s'.M ++ FM⟩) : retQ P fn FK FM R .ret E s :=
  ⟨_, s', fun _ _ _ _ _ => by simp [results, hr], hR, hw⟩
theorem ret0n (hr : fn.results = #[]) (hR : R (.tuple #[]) s') (hw : Wk s ⟨s'.K ++ FK, s'.M ++ FM⟩) : retQ P fn FK FM R .normal E s :=
  ⟨_, s', fun _ _ _ _ _ => by simp [results, hr], hR, hw⟩
theorem ret1 {t : Tmp} {v : Value} (hr : fn.results = #[.tmp t]) (hv : lk E t = some v) (hR : R v s') (hw : Wk s ⟨s'.K ++ FK, s'.M ++ FM⟩) : retQ P fn FK FM R .ret E s :=
  ⟨v, s', fun _ _ a w hs => by rw [results_tmp hr, hs.env _ _ hv], hR, hw⟩
theorem ret2 {t u : Tmp} {v x : Value} (hr : fn.results = #[.tmp t, .tmp u]) (hv : lk E t = some v) (hx : lk E u = some x) (hR : R (.tuple #[v, x]) s') (hw : Wk s ⟨s'.K ++ FK, s'.M ++ FM⟩) : retQ P fn FK FM R .ret E s :=
  ⟨_, s', fun _ _ a w hs => by rw [results_tmp2 hr, hs.env _ _ hv, hs.env _ _ hx], hR, hw⟩
theorem ret3 {t u z : Tmp} {v x y : Value} (hr : fn.results = #[.tmp t, .tmp u, .tmp z]) (hv : lk E t = some v) (hx : lk E u = some x) (hy : lk E z = some y) (hR : R (.tuple #[v, x, y]) s') (hw : Wk s ⟨s'.K ++ FK, s'.M ++ FM⟩) : retQ P fn FK FM R .ret E s :=
  ⟨_, s', fun _ _ a w hs => by
    have h1 := hs.env _ _ hv; have h2 := hs.env _ _ hx; have h3 := hs.env _ _ hy
    simp only [Array.getD_eq_getD_getElem?] at h1 h2 h3
    simp [results, hr, h1, h2, h3], hR, hw⟩
/-- A result that lies in a block. -/
theorem retc {t : Tmp} {ty : TypeId} {gb : Nat} {vs cs : List Value} {e : TypeId} {M R1 : List Own} {Kp : List KP} {n : Nat} (hr : fn.results = #[.cell t ty]) (ha : ∀ w, (isAgg ty).run P w = .ok true w) (hz : ∀ w, (sizeOf ty).run P w = .ok n w)
    (hv : lk E t = some (.pointer (some ⟨gb, 0, none⟩))) (hs : Sel (cellsO gb cs e) M R1) (hc : (cs.drop 0).take n = vs) (hn : vs.length = n) (hR : R (.agg vs.toArray) s') (hw : Wk ⟨Kp, M⟩ ⟨s'.K ++ FK, s'.M ++ FM⟩) : retQ P fn FK FM R .ret E ⟨Kp, M⟩ :=
  ⟨_, s', fun _ _ a w hsat => by
    have h1 := hsat.env _ _ hv
    have hl := run_loads (P := P) hs hsat.st hc hn
    simp only [Array.getD_eq_getD_getElem?] at h1
    simp [results, hr, h1, asAddr, loadVar, ha, hz, hl], hR, hw⟩
end
end Go.HL
