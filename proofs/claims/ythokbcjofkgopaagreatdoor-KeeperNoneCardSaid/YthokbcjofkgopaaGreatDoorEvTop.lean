/-
  THE RUNNER IS RIGHT: what it answers for a call, the model's call comes to.
-/
import Derived.Test.YthokbcjofkgopaaGreatDoorEvDrm
import Derived.Scope
namespace Go.EV
open Go Go.HL

theorem PostX.base {N : Nat} {K : List KP} {M : List Own} {w0 : World} {γ γ' : Va} {n n' : Nat} {x : Ex} {T : Tr AV} {h : Hp} {e : Exit} {a : Act} {w : World} (hx : Ext n γ γ') (hn : n ≤ n') (hp : PostX N K M w0 γ' n' x T h e a w) : PostX N K M w0 γ n x T h e a w := by
  obtain ⟨h1, h2, γ2, h3, h4⟩ := hp
  exact ⟨h1, Nat.le_trans hn h2, γ2, hx.trans h3 hn, h4⟩

/-- From the head of a round. -/
def LoopFrom (P : Program) (c : Code) (Q : Exit → Act → World → Prop) (a : Act) (w : World) : Prop :=
  ∀ (b : Frame) (k : List Item) (cs : List Frame), ∃ e a' w', Q e a' w' ∧ Arrives P (lone (b.at a (.code c :: .inLoop c :: k)) cs w) b k cs e a' w'
theorem LoopFrom.loop {P : Program} {c : Code} {Q : Exit → Act → World → Prop} {a : Act} {w : World} (h : LoopFrom P c Q a w) : (Code.loop c).wp P Q a w := fun b k cs =>
  let ⟨e, a', w', hq, harr⟩ := h b k cs
  ⟨e, a', w', hq, .of_steps (.one step_loop) harr⟩
theorem LoopFrom.round {P : Program} {c : Code} {Q : Exit → Act → World → Prop} {a : Act} {w : World} (h : c.wp P (Exit.then (LoopFrom P c Q) Q) a w) : LoopFrom P c Q a w := by
  intro b k cs
  obtain ⟨e, a₁, w₁, hq, harr⟩ := h b (.inLoop c :: k) cs
  cases e with
  | normal =>
    obtain ⟨e₂, a₂, w₂, hq₂, harr₂⟩ := hq b k cs
    exact ⟨e₂, a₂, w₂, hq₂, .of_steps (Steps.trans harr (.one step_inLoop)) harr₂⟩
  | exit id => exact ⟨_, a₁, w₁, hq, .pass (x := .inLoop c) rfl (fun _ _ => .inl (by simp)) harr⟩
  | goto l => exact ⟨_, a₁, w₁, hq, .pass (x := .inLoop c) rfl (fun _ _ => .inl (by simp)) harr⟩
  | ret => exact ⟨_, a₁, w₁, hq, .pass (x := .inLoop c) rfl (fun _ _ => .inl (by simp)) harr⟩
  | panic ch => exact ⟨_, a₁, w₁, hq, .pass (x := .inLoop c) rfl (fun _ _ => .inl (by simp)) harr⟩
  | outgrown => exact ⟨_, a₁, w₁, hq, .pass (x := .inLoop c) rfl (fun _ _ => .inl (by simp)) harr⟩

def rvS (tmps : Array Value) : ResultVar → Sem Value
  | .tmp t => pure (tmps.getD t undef)
  | .cell a t => do loadVar t (← asAddr (tmps.getD a undef))
theorem results_rv (fn : Func) (tmps : Array Value) : results fn tmps = (do let vs ← fn.results.mapM (rvS tmps); pure (if h : vs.size = 1 then vs[0] else .tuple vs)) := by
  unfold results
  have : (fun x => match x with | .tmp t => pure (tmps.getD t undef) | .cell a t => do loadVar t (← asAddr (tmps.getD a undef)) : ResultVar → Sem Value) = rvS tmps := by funext x; cases x <;> rfl
  first
    | rw [this]
    | (rw [← this]; rfl)
theorem blt_mono {d n m : Nat} (h : Nat.blt d n = true) (hm : n ≤ m) : Nat.blt d m = true := by
  have : d < n := by simpa [Nat.blt_eq] using h
  simp [Nat.blt_eq]; omega
theorem cdOk_mono {n m : Nat} (hm : n ≤ m) : ∀ {c : Code}, cdOk n c = true → cdOk m c = true := by
  intro c
  induction c with
  | region id ops d =>
    intro h
    unfold cdOk at h ⊢
    refine List.all_eq_true.2 fun o ho => ?_
    have := List.all_eq_true.1 h o ho
    cases hd : o.dst with
    | none => rfl
    | some d => rw [hd] at this; exact blt_mono this hm
  | seq a b iha ihb => intro h; unfold cdOk at h ⊢; rw [Bool.and_eq_true] at h ⊢; exact ⟨iha h.1, ihb h.2⟩
  | cond c a b iha ihb => intro h; unfold cdOk at h ⊢; rw [Bool.and_eq_true] at h ⊢; exact ⟨iha h.1, ihb h.2⟩
  | block id b ih => intro h; unfold cdOk at h ⊢; exact ih h
  | loop b ih => intro h; unfold cdOk at h ⊢; exact ih h
  | scope b ih => intro h; unfold cdOk at h ⊢; exact ih h
  | _ => intro _; rfl

section
variable {X : Sx} {GK K : List KP} {M : List Own} {w0 w : World} {γ : Va} {a : Act} {T : Tr AV} {h : Hp} {N : Nat}

theorem resL_ok (hX : XOk X GK) (hG : ∀ k ∈ GK, k ∈ K) (hs : SatA N K M w0 γ T h a w) : ∀ {rs : List ResultVar} {l : List AV}, resL X T h rs = some l →
    ∃ us, (rs.mapM (m := Sem) (rvS a.tmps)).run X.P w = .ok us w ∧ IVL γ l us
  | [], l, hl => by simp only [resL] at hl; injection hl with hl; subst hl; exact ⟨[], by simp, IVL.nil⟩
  | .tmp t :: r, l, hl => by
    simp only [resL] at hl
    split at hl
    · rename_i v hv
      split at hl
      · rename_i l' hl'
        injection hl with hl; subst hl
        obtain ⟨us, h1, h2⟩ := resL_ok hX hG hs hl'
        refine ⟨a.tmps.getD t undef :: us, ?_, IVL.cons (hs.env t v hv) h2⟩
        rw [List.mapM_cons]
        simp only [Sem.run_bind, rvS, Sem.run_pure, Result.andThen, h1]
      · cases hl
    · cases hl
  | .cell t ty :: r, l, hl => by
    simp only [resL] at hl
    split at hl
    · rename_i v hv
      split at hl
      · rename_i l' hl'
        injection hl with hl; subst hl
        obtain ⟨us, h1, h2⟩ := resL_ok hX hG hs hl'
        have hg := oLoad_ok (o := ⟨none, .load ty (.tmp t), ty, "", #[], none⟩) (w0 := w0) (M := M) hX hG hs.env hs.st rfl
        rw [hv] at hg
        obtain ⟨u, h3, h4⟩ := hg
        refine ⟨u :: us, ?_, IVL.cons h4 h2⟩
        rw [List.mapM_cons]
        have h3' : (do let x ← asAddr (a.tmps.getD t undef); loadVar ty x : Sem Value).run X.P w = .ok u w := by
          simp only [execOp, Instr.loadAt] at h3
          have he : a.eval (.tmp t) = a.tmps.getD t undef := rfl
          rw [he] at h3
          cases hq : a.tmps.getD t undef with
          | pointer p =>
            rw [hq] at h3
            cases p with
            | none => simp [Instr.sureAddr, stuck, Sem.run_bind, Result.andThen, Sem.run] at h3
            | some p =>
              simp only [Instr.sureAddr, asAddr, Sem.run_bind, Sem.run_pure, Result.andThen] at h3 ⊢
              cases hr : (loadVar ty p).run X.P w with
              | ok y w' => rw [hr] at h3; simp at h3; obtain ⟨e1, e2⟩ := h3; rw [e1, e2]
              | halt y w' => rw [hr] at h3; simp at h3
          | _ => rw [hq] at h3; simp [Instr.sureAddr, stuck, Sem.run_bind, Result.andThen, Sem.run] at h3
        have h3'' : (rvS a.tmps (.cell t ty)).run X.P w = .ok u w := h3'
        simp only [Sem.run_bind, h3'', Sem.run_pure, Result.andThen, h1]
      · cases hl
    · cases hl

theorem results_ok (hX : XOk X GK) (hG : ∀ k ∈ GK, k ∈ K) (hs : SatA N K M w0 γ T h a w) {fn : Func} {l : List AV} (hl : resL X T h fn.results.toList = some l) : ∃ u, (results fn a.tmps).run X.P w = .ok u w ∧ IV γ (resA l) u := by
  obtain ⟨us, h1, h2⟩ := resL_ok hX hG hs hl
  have hm : (fn.results.mapM (m := Sem) (rvS a.tmps)).run X.P w = .ok us.toArray w := by
    rw [Array.mapM_eq_mapM_toList]
    simp only [Sem.run_map, h1, Result.andThen]
  rw [results_rv]
  simp only [Sem.run_bind, hm, Result.andThen, Sem.run_pure]
  cases l with
  | nil =>
    rw [ivl_nil.1 h2]
    exact ⟨.tuple #[], rfl, iv_mkTup IVL.nil⟩
  | cons v r =>
    obtain ⟨u, us', rfl, h3, h4⟩ := ivl_cons.1 h2
    cases r with
    | nil =>
      rw [ivl_nil.1 h4]
      exact ⟨u, by simp, h3⟩
    | cons v2 r2 =>
      have hlen := h4.len
      have hsz : (u :: us').toArray.size ≠ 1 := by simp at hlen ⊢; intro hh; rw [hh] at hlen; simp at hlen
      exact ⟨.tuple (u :: us').toArray, by rw [dif_neg hsz], iv_mkTup h2⟩

theorem init_get : ∀ {args : List AV} {i : Nat} {T : Tr AV} {n : Nat}, tget (initT args i T) n = if i ≤ n ∧ n < i + args.length then args[n - i]? else tget T n
  | [], i, T, n => by simp [initT]; omega
  | x :: r, i, T, n => by
    unfold initT
    rw [init_get (args := r), tget_tset]
    simp only [List.length_cons, Nat.succ_eq_add_one]
    by_cases h1 : n = i
    · subst h1
      rw [if_neg (by omega), if_pos rfl, if_pos (by omega)]
      simp
    · by_cases h2 : i + 1 ≤ n ∧ n < i + 1 + r.length
      · rw [if_pos h2, if_pos (by omega)]
        have : n - i = (n - (i + 1)) + 1 := by omega
        rw [this]; simp
      · rw [if_neg h2, if_neg h1, if_neg (by omega)]

/-- Code, with what is known of calls. -/
def OkEv (X : Sx) (GK : List KP) (f : Nat) : Prop :=
  (∀ (c : Code) (T : Tr AV) (h : Hp) (x : Ex) (T' : Tr AV) (h' : Hp), evC X f c T h = some (x, T', h') → ∀ (N : Nat) (K : List KP) (M : List Own) (w0 : World) (γ : Va) (a : Act) (w : World), cdOk N c = true → (∀ k ∈ GK, k ∈ K) → SatA N K M w0 γ T h a w →
    c.wp X.P (PostX N K M w0 γ h.next x T' h') a w) ∧
  (∀ (c : Code) (T : Tr AV) (h : Hp) (x : Ex) (T' : Tr AV) (h' : Hp), evC X f (.loop c) T h = some (x, T', h') → ∀ (N : Nat) (K : List KP) (M : List Own) (w0 : World) (γ : Va) (a : Act) (w : World), cdOk N c = true → (∀ k ∈ GK, k ∈ K) → SatA N K M w0 γ T h a w →
    LoopFrom X.P c (PostX N K M w0 γ h.next x T' h') a w)

theorem callF_ok (hX : XOk X GK) {f : Nat} (hf : OkEv X GK f) : OkCF X GK (callF X (evC X f)) := by
  intro g args h v h' hc γ us K M w0 w hus hG hs o a next Qx hn
  unfold callF at hc
  split at hc
  · rename_i fi hfi
    obtain ⟨fn, hfn, hbody, hres, hnt, hok⟩ := hX.ft g fi hfi
    split at hc
    · rename_i c hb
      obtain ⟨hname, hcd⟩ := hok c hb
      have hrun : (callFunc g us.toArray).run X.P w = .ok (.enter g us.toArray) w := by
        have hbb : fn.body = some c := by rw [hbody, hb]
        simp [callFunc, hfn, hname, hbb]
      rw [hrun, Oper.upon_enter]
      -- the body
      have hsat : SatA (max fi.n us.length) K M w0 γ (initT args 0 .e) h { tmps := us.toArray ++ Array.replicate (fn.ntmps - us.toArray.size) undef, defers := [] } w := by
        refine ⟨rfl, by simp [hnt]; omega, fun n av hn' => ?_, hs⟩
        rw [init_get, tget_e] at hn'
        split at hn'
        · rename_i hlt
          obtain ⟨u, hu, hv⟩ := hus.get (n - 0) hn'
          have hnl : n < us.length := by have := (List.getElem?_eq_some_iff.1 hu).1; simpa using this
          simp only [Nat.sub_zero] at hu
          rw [Array.getD_eq_getD_getElem?, Array.getElem?_append_left (by simpa using hnl)]
          simp [hu, hv]
        · cases hn'
      have hcd' := cdOk_mono (Nat.le_max_left fi.n us.length) hcd
      have hbb : fn.body = some c := by rw [hbody, hb]
      split at hc
      · cases hc
      · rename_i x T' h1 hnx hev
        split at hc
        · rename_i l hl
          injection hc with hc; injection hc with e1 e2; subst e1; subst e2
          have hwp := hf.1 c _ h x T' h1 hev _ K M w0 γ _ w hcd' hG hsat
          refine calls_of_wp hfn hbb (wp_mono hwp fun e a' w' hp => ?_)
          obtain ⟨he, hnn, γ', hx, hs'⟩ := hp
          rw [← hres] at hl
          obtain ⟨u, hu1, hu2⟩ := results_ok hX hG hs' hl
          have hgo : a'.defers = [] ∧ ∃ v, (results fn a'.tmps).run X.P w' = .ok v w' ∧ (match Ending.returned v, w' with
            | .returned v, w'' => next (a.put o.dst v) w''
            | .panicked chain, w'' => Qx (.panic chain) a w''
            | .outgrown, _ => LetsOut Qx) := ⟨hs'.defers, u, hu1, hn u γ' w' hu2 hx hnn hs'.st⟩
          subst he
          cases x with
          | norm => exact hgo
          | ret => exact hgo
          | exit id => exact (hnx id rfl).elim
        · cases hc
      · cases hc
    · split at hc
      · rename_i vs hvs
        split at hc
        · rename_i u hp
          injection hc with hc; injection hc with e1 e2; subst e1; subst e2
          have := allV_eq hvs
          subst this
          have hu := hus.map_v
          subst hu
          rw [pureRun_ok hp w, Oper.upon_value]
          exact hn u γ w (iv_v.2 rfl) (Ext.refl _ _) (Nat.le_refl _) hs
        · cases hc
      · cases hc
  · cases hc

theorem ev_ok0 : OkEv X GK 0 := ⟨fun c T h x T' h' he => (by cases he), fun c T h x T' h' he => (by cases he)⟩
theorem exitOf_norm {x : Ex} (h : exitOf x = .normal) : x = .norm := by cases x <;> first | rfl | cases h

theorem ev_step (hX : XOk X GK) {f : Nat} (ih : OkEv X GK f) : OkEv X GK (f + 1) := by
  have hcf := callF_ok hX ih
  have loopOk : ∀ (c : Code) (T : Tr AV) (h : Hp) (x : Ex) (T' : Tr AV) (h' : Hp), evC X (f + 1) (.loop c) T h = some (x, T', h') → ∀ (N : Nat) (K : List KP) (M : List Own) (w0 : World) (γ : Va) (a : Act) (w : World), cdOk N c = true → (∀ k ∈ GK, k ∈ K) → SatA N K M w0 γ T h a w →
      LoopFrom X.P c (PostX N K M w0 γ h.next x T' h') a w := by
    intro c T h x T' h' he N K M w0 γ a w hcd hG hs
    have he : (match evC X f c T h with
      | some (.norm, T, h) => evC X f (.loop c) T h
      | r => r) = some (x, T', h') := he
    refine LoopFrom.round ?_
    split at he
    · rename_i T1 h1 h1e
      refine wp_mono (ih.1 c T h .norm T1 h1 h1e N K M w0 γ a w hcd hG hs) fun e a1 w1 hp => ?_
      obtain ⟨hee, hn, γ1, hx, hs1⟩ := hp
      subst hee
      have := ih.2 c T1 h1 x T' h' he N K M w0 γ1 a1 w1 hcd hG hs1
      exact fun b k cs => let ⟨e, a', w', hq, harr⟩ := this b k cs; ⟨e, a', w', hq.base hx hn, harr⟩
    · rename_i r hr
      refine wp_mono (ih.1 c T h x T' h' he N K M w0 γ a w hcd hG hs) fun e a1 w1 hp => ?_
      cases e with
      | normal =>
        exfalso
        have := exitOf_norm hp.1.symm
        subst this
        exact hr T' h' he
      | _ => exact hp
  refine ⟨?_, loopOk⟩
  intro c T h x T' h' he N K M w0 γ a w hcd hG hs
  cases c with
  | skip =>
    have he : some (Ex.norm, T, h) = some (x, T', h') := he
    injection he with he; injection he with e1 he; injection he with e2 e3; subst e1; subst e2; subst e3
    exact wp_skip ⟨rfl, Nat.le_refl _, γ, Ext.refl _ _, hs⟩
  | label l =>
    have he : some (Ex.norm, T, h) = some (x, T', h') := he
    injection he with he; injection he with e1 he; injection he with e2 e3; subst e1; subst e2; subst e3
    exact wp_label ⟨rfl, Nat.le_refl _, γ, Ext.refl _ _, hs⟩
  | region id ops dr =>
    unfold cdOk at hcd
    cases dr with
    | false =>
      have he : (match evOps X (callF X (evC X f)) ops.toList ops.toList T h with
        | some (T, h) => some (Ex.norm, T, h)
        | none => none) = some (x, T', h') := he
      split at he
      · rename_i T1 h1 h1e
        injection he with he; injection he with e1 he; injection he with e2 e3; subst e1; subst e2; subst e3
        have := evOps_ok hX hcf hG h1e hcd hs (Ext.refl _ _) (Nat.le_refl _)
        have := wp_region_lit (id := id) this
        simpa using this
      · cases he
    | true =>
      have he : (match evD X (callF X (evC X f)) ops.toList T h with
        | some (T, h) => some (Ex.norm, T, h)
        | none => none) = some (x, T', h') := he
      split at he
      · rename_i T1 h1 h1e
        injection he with he; injection he with e1 he; injection he with e2 e3; subst e1; subst e2; subst e3
        have := evD_ok (id := id) hX hcf hG h1e hcd hs
        simpa using this
      · cases he
  | seq p q =>
    unfold cdOk at hcd
    rw [Bool.and_eq_true] at hcd
    have he : (match evC X f p T h with
      | some (.norm, T, h) => evC X f q T h
      | r => r) = some (x, T', h') := he
    refine wp_seq ?_
    split at he
    · rename_i T1 h1 h1e
      refine wp_mono (ih.1 p T h .norm T1 h1 h1e N K M w0 γ a w hcd.1 hG hs) fun e a1 w1 hp => ?_
      obtain ⟨hee, hn, γ1, hx, hs1⟩ := hp
      subst hee
      exact wp_mono (ih.1 q T1 h1 x T' h' he N K M w0 γ1 a1 w1 hcd.2 hG hs1) fun e a2 w2 hq => hq.base hx hn
    · rename_i r hr
      refine wp_mono (ih.1 p T h x T' h' he N K M w0 γ a w hcd.1 hG hs) fun e a1 w1 hp => ?_
      cases e with
      | normal =>
        exfalso
        have := exitOf_norm hp.1.symm
        subst this
        exact hr T' h' he
      | _ => exact hp
  | cond c p q =>
    unfold cdOk at hcd
    rw [Bool.and_eq_true] at hcd
    have he : (match evO (tget T) c with
      | some (.v (.bool true)) => evC X f p T h
      | some (.v (.bool false)) => evC X f q T h
      | _ => none) = some (x, T', h') := he
    split at he
    · rename_i hc
      exact wp_cond_true (ev_v hs.env hc) (ih.1 p T h x T' h' he N K M w0 γ a w hcd.1 hG hs)
    · rename_i hc
      exact wp_cond_false (ev_v hs.env hc) (ih.1 q T h x T' h' he N K M w0 γ a w hcd.2 hG hs)
    · cases he
  | block id b =>
    unfold cdOk at hcd
    have he : (match evC X f b T h with
      | some (.exit i, T, h) => some (match Nat.beq i id with | true => Ex.norm | false => .exit i, T, h)
      | r => r) = some (x, T', h') := he
    refine wp_block ?_
    split at he
    · rename_i i T1 h1 h1e
      injection he with he; injection he with e1 he; injection he with e2 e3; subst e2; subst e3
      refine wp_mono (ih.1 b T h (.exit i) T1 h1 h1e N K M w0 γ a w hcd hG hs) fun e a1 w1 hp => ?_
      obtain ⟨hee, hn, γ1, hx, hs1⟩ := hp
      subst hee
      show if i = id then _ else _
      cases hb : Nat.beq i id with
      | true =>
        have : i = id := Nat.eq_of_beq_eq_true hb
        rw [hb] at e1
        subst e1
        rw [if_pos this]
        exact ⟨rfl, hn, γ1, hx, hs1⟩
      | false =>
        have : i ≠ id := Nat.ne_of_beq_eq_false hb
        rw [hb] at e1
        subst e1
        rw [if_neg this]
        exact ⟨rfl, hn, γ1, hx, hs1⟩
    · rename_i r hr
      refine wp_mono (ih.1 b T h x T' h' he N K M w0 γ a w hcd hG hs) fun e a1 w1 hp => ?_
      cases e with
      | exit i =>
        exfalso
        have h1 := hp.1
        cases x with
        | exit j => exact hr j T' h' he
        | norm => cases h1
        | ret => cases h1
      | _ => exact hp
  | loop b =>
    unfold cdOk at hcd
    exact (loopOk b T h x T' h' he N K M w0 γ a w hcd hG hs).loop
  | rangeFunc g ps as b =>
    have he : (none : RC) = some (x, T', h') := he
    cases he
  | exit id =>
    have he : some (Ex.exit id, T, h) = some (x, T', h') := he
    injection he with he; injection he with e1 he; injection he with e2 e3; subst e1; subst e2; subst e3
    exact wp_exit ⟨rfl, Nat.le_refl _, γ, Ext.refl _ _, hs⟩
  | scope b =>
    unfold cdOk at hcd
    have he : evC X f b T h = some (x, T', h') := he
    refine wp_scope_straight (wp_mono (ih.1 b T h x T' h' he N K M w0 γ a w hcd hG hs) fun e a1 w1 hp => ?_)
    cases e with
    | goto l => cases x <;> exact absurd hp.1 (by simp [exitOf])
    | _ => exact hp
  | goto l =>
    have he : (none : RC) = some (x, T', h') := he
    cases he
  | ret =>
    have he : some (Ex.ret, T, h) = some (x, T', h') := he
    injection he with he; injection he with e1 he; injection he with e2 e3; subst e1; subst e2; subst e3
    exact wp_ret ⟨rfl, Nat.le_refl _, γ, Ext.refl _ _, hs⟩
  | refuse why =>
    have he : (none : RC) = some (x, T', h') := he
    cases he

theorem ev_all (hX : XOk X GK) : ∀ f, OkEv X GK f
  | 0 => ev_ok0
  | f + 1 => ev_step hX (ev_all hX f)

/-- A call that the runner runs over an empty heap: its value, and nothing that was there is turned. -/
theorem call_closed_args (hX : XOk X GK) {g fuel n : Nat} {fn : Func} {c : Code} (vs : List Value) (hfn : X.P.funcs[g]? = some fn) (hb : fn.body = some c) (hname : fn.name ≠ "runtime.NumGoroutine") {u : Value} {h' : Hp} (he : callF X (evC X fuel) g (vs.map .v) ⟨.e, n⟩ = some (.v u, h')) :
    HL.Fn X.P g vs ⟨GK, []⟩ (fun v s' => v = u ∧ s' = ⟨GK, []⟩) := by
  intro F w0 w hst
  have hst0 : St ⟨GK ++ F.K, hO (fun _ => none) ⟨.e, n⟩ :: F.M⟩ w0 w := by
    obtain ⟨H, l, hk, hm, ha, h0⟩ := hst
    exact ⟨H, [] ++ l, hk, .cons (o := hO (fun _ => none) ⟨.e, n⟩) ⟨fun b o hb => (by rw [tget_e] at hb; cases hb), fun b b' o o' g c c' hb => (by rw [tget_e] at hb; cases hb), fun _ _ => rfl⟩ hm, ha, h0⟩
  have hrun : (callFunc g vs.toArray).run X.P w = .ok (.enter g vs.toArray) w := by simp [callFunc, hfn, hname, hb]
  have hcall := callF_ok hX (ev_all hX fuel) g (vs.map .v) ⟨.e, n⟩ (.v u) h' he (fun _ => none) vs (GK ++ F.K) F.M w0 w (ivl_map_v vs) (fun k hk => List.mem_append_left _ hk) hst0 ⟨some 0, .move (.const undef), 0, "", #[], none⟩ ⟨#[undef], []⟩
    (fun a1 w1 => a1 = ⟨#[u], []⟩ ∧ St ⟨GK ++ F.K, F.M⟩ w0 w1) (fun _ _ _ => False) (fun u' γ' w' hu' _ _ hst' => by
      have := iv_v.1 hu'
      subst this
      refine ⟨rfl, ?_⟩
      obtain ⟨H, l1, l2, hk, _, hR, ha, h0⟩ := hst'.focus Sel.head
      exact ⟨H, l2, hk, hR, by
        have := (ha.perm (List.perm_append_comm)).left
        exact this, h0⟩)
  rw [hrun, Oper.upon_enter] at hcall
  refine hcall.mono fun e w' hR => ?_
  cases e with
  | returned v =>
    obtain ⟨h1, h2⟩ := hR
    have hv : v = u := by
      have : (#[undef] : Array Value).setIfInBounds 0 v = #[u] := congrArg Act.tmps h1
      simpa using this
    exact ⟨v, ⟨GK, []⟩, rfl, ⟨hv, rfl⟩, by simpa using h2⟩
  | panicked ch => exact hR.elim
  | outgrown => obtain ⟨_, _, hh⟩ := hR; exact hh.elim
end
end Go.EV
