/-
  Regions whose order is drawn: the runner's answer is the model's.
-/
import Derived.Test.YthokbcjofkgopaaGreatDoorEvDry
namespace Go.EV
open Go Go.HL

section
variable {X : Sx} {GK K : List KP} {M : List Own} {w0 : World} {cf : CF} {ops : List Oper} {T : Tr AV} {n0 : Nat} {h0 : Hp}

theorem tget_newB {h : Hp} {ao : AO} : tget (newB h ao).tr h.next = some ao := by
  show tget (tset h.tr h.next (some ao)) h.next = _
  rw [tget_tset, if_pos rfl]

theorem mk_shape {ρ : Rho} {h : Hp} {o : Oper} (ha : isAlloc o.op = true) {v : AV} {h1 : Hp} (hr : stepO X ρ h o = .eff v h1) : ∃ ao, h1 = newB h ao := by
  unfold stepO at hr
  cases ho : o.op with
  | alloc t =>
    rw [ho] at hr
    simp only at hr
    unfold oAlloc at hr
    split at hr
    · injection hr with e1 e2; exact ⟨_, e2.symm⟩
    · cases hr
  | buildSlice t len ps =>
    rw [ho] at hr
    simp only at hr
    unfold oBuildSlice at hr
    split at hr
    · split at hr
      · split at hr
        · split at hr
          · injection hr with e1 e2; exact ⟨_, e2.symm⟩
          · cases hr
        · cases hr
      · cases hr
    · cases hr
  | _ => rw [ho] at ha; cases ha

/-- A block that may be made on either side of the last call is told. -/
theorem DInv.both (hX : XOk X GK) (hcf : OkCF X GK cf) (hG : ∀ k ∈ GK, k ∈ K) {i : Nat} {o : Oper} (ho : ops[i]? = some o) {s : Dr} {v : AV} {f n : Nat} {c0 : Nd} {h1 : Hp} {ao : AO} (hI : DInv X K M w0 cf ops T n0 h0 i s) (hk : s.kept = some (f, n, c0))
    (ha : isAlloc o.op = true) (hg : guardOn ops (lookD ops T s.vals i) o.guard = some true) (hr : stepO X (lookD ops T s.vals i) ⟨s.cur.h.tr, n⟩ o = .eff v h1) (hao : tget h1.tr n = some ao) :
    DInv X K M w0 cf ops T n0 h0 (i + 1) (s.both i v c0 ⟨Nat.lor c0.X (bit i), ⟨tset c0.h.tr n (some ao), Nat.succ n⟩, none⟩ ⟨Nat.lor s.cur.X (bit i), ⟨h1.tr, s.cur.h.next⟩, none⟩) := by
  obtain ⟨hi, hv⟩ := vals_next (v := v) hI.vals
  have k := hI.kept f n c0 hk
  obtain ⟨oe, ρe, hh, fe, args, ve, q1, q2, q3, q4, q5, q6⟩ := k.call
  -- what is made
  have mk : ∀ γ a, EnvR γ (lookD ops T s.vals i) a → ∃ (c : Nat) (ob : Obj) (u : Nat → Value), h1 = newB ⟨s.cur.h.tr, n⟩ ao ∧ (∀ γ', Le γ γ' → OV γ' c ao ob) ∧ (∀ γ' g, γ' n = some (g, c) → IV γ' v (u g)) ∧
      (∀ w, (execOp a.eval o).run X.P w = .ok (.value (u w.heap.size)) { w with heap := w.heap.push ob }) := fun γ a hE => by
    obtain ⟨ao', c, ob, u, e1, _, e3, e4, e5⟩ := mk_ok hX hE ha hr
    have : ao' = ao := by
      rw [e1] at hao
      have h2 : tget (newB ⟨s.cur.h.tr, n⟩ ao').tr n = some ao' := tget_newB (h := ⟨s.cur.h.tr, n⟩)
      rw [h2] at hao; injection hao
    subst this
    exact ⟨c, ob, u, e1, e3, e4, e5⟩
  have hh1 : h1.tr = tset s.cur.h.tr n (some ao) := by
    obtain ⟨ao', e1⟩ := mk_shape ha hr
    have : ao' = ao := by
      rw [e1] at hao
      have h2 : tget (newB ⟨s.cur.h.tr, n⟩ ao').tr n = some ao' := tget_newB (h := ⟨s.cur.h.tr, n⟩)
      rw [h2] at hao; injection hao
    subst this
    rw [e1]; rfl
  have E1 : EdgeOK X K M w0 ops T n0 s.vals s.cur i v ⟨Nat.lor s.cur.X (bit i), ⟨h1.tr, s.cur.h.next⟩, none⟩ := by
    intro o' ho' γ a w hE hf hs
    rw [ho] at ho'; injection ho' with ho'; subst ho'
    refine ⟨guard_ok hE hg, fun next Qx hn => ?_⟩
    obtain ⟨c, ob, u, e1, e3, e4, e5⟩ := mk γ a hE
    obtain ⟨hgn, hlt, hle⟩ := hf.2 n k.free
    have hx : Ext n0 γ (upV γ n (w.heap.size, c)) := ext_up hgn hle
    unfold Oper.wp
    rw [e5 w]
    refine hn _ (upV γ n (w.heap.size, c)) _ (e4 _ _ (by simp [upV])) hx (Fr.none hf.1 rfl) ?_
    have := st_newAt (w' := { w with heap := w.heap.push ob }) hs hgn hlt ao c ob (e3 _ hx.le) rfl ⟨rfl, rfl, rfl⟩
    rw [e1]; exact this
  have E2 : EdgeOK X K M w0 ops T n0 s.vals c0 i v ⟨Nat.lor c0.X (bit i), ⟨tset c0.h.tr n (some ao), Nat.succ n⟩, none⟩ := by
    intro o' ho' γ a w hE hf hs
    rw [ho] at ho'; injection ho' with ho'; subst ho'
    refine ⟨guard_ok hE hg, fun next Qx hn => ?_⟩
    obtain ⟨c, ob, u, e1, e3, e4, e5⟩ := mk γ a hE
    have hnn := k.num
    have hgn : γ n = none := by rw [hnn]; exact st_fresh hs (Nat.le_refl _)
    have hx : Ext n0 γ (upV γ n (w.heap.size, c)) := ext_up hgn (by rw [hnn]; exact hf.1)
    unfold Oper.wp
    rw [e5 w]
    refine hn _ (upV γ n (w.heap.size, c)) _ (e4 _ _ (by simp [upV])) hx (Fr.none (Nat.le_trans hf.1 (by rw [hnn]; exact Nat.le_succ _)) rfl) ?_
    have := st_new (w' := { w with heap := w.heap.push ob }) hs ao c ob (by rw [← hnn]; exact e3 _ hx.le) rfl ⟨rfl, rfl, rfl⟩
    rw [hnn]; exact this
  have E3 : EdgeOK X K M w0 ops T n0 s.vals ⟨Nat.lor c0.X (bit i), ⟨tset c0.h.tr n (some ao), Nat.succ n⟩, none⟩ s.last ve ⟨Nat.lor s.cur.X (bit i), ⟨h1.tr, s.cur.h.next⟩, none⟩ := by
    intro o' ho' γ a w hE hf hs
    rw [q1] at ho'; injection ho' with ho'; subst ho'
    have hEe := hE.sub q2
    refine ⟨guard_ok hEe q3, fun next Qx hn => ?_⟩
    obtain ⟨g, c, ob, e1, e2, hs'⟩ := st_split hs k.gone
    have hstep := (step_indep (X := X) (ρ := ρe) (h := hh) (o := oe) (⟨c0.h.tr, Nat.succ n⟩ : Hp)).2 fe args q4
    have hgood := step_ok (o := oe) hX hG hEe hs'
    rw [hstep] at hgood
    obtain ⟨us, p1, p2⟩ := hgood
    unfold Oper.wp
    rw [p1]
    refine hcf fe args _ ve s.cur.h q5 γ us K (kO g ob :: M) w0 w p2 hG hs' oe a next Qx fun u γ' w' r1 r2 r3 r4 => ?_
    have hle : n0 ≤ Nat.succ n := hf.1
    refine hn u γ' w' r1 (r2.less hle) (Fr.none (Nat.le_trans hle r3) rfl) ?_
    have hm := st_merge r4 (r2.le _ _ e1) (e2.mono r2.le)
    rw [hh1]; exact hm
  have hlt0 := hI.lt c0 k.mem
  have hltc := hI.lt _ hI.cur
  have hne : ∀ c' ∈ s.nodes, ∀ m, c'.X ≠ Nat.lor m (bit i) := fun c' hc' m he' => by
    have h1 := tb_lt (hI.lt c' hc') (Nat.le_refl i)
    have h2 : tb (Nat.lor m (bit i)) i = true := by rw [tb_lor, (tb_bit i i).2 rfl]; simp
    rw [he'] at h1; rw [h1] at h2; cases h2
  have hnel : ∀ m, m < 2 ^ i → m ≠ Nat.lor s.cur.X (bit i) ∧ m ≠ Nat.lor c0.X (bit i) := fun m hm => by
    have h1 := tb_lt hm (Nat.le_refl i)
    refine ⟨fun he' => ?_, fun he' => ?_⟩
    · have h2 : tb (Nat.lor s.cur.X (bit i)) i = true := by rw [tb_lor, (tb_bit i i).2 rfl]; simp
      rw [he'] at h1; rw [h1] at h2; cases h2
    · have h2 : tb (Nat.lor c0.X (bit i)) i = true := by rw [tb_lor, (tb_bit i i).2 rfl]; simp
      rw [he'] at h1; rw [h1] at h2; cases h2
  have hcc : Nat.lor s.cur.X (bit i) ≠ Nat.lor c0.X (bit i) := fun he' => by
    have h1 : tb (Nat.lor s.cur.X (bit i)) s.last = true := by rw [tb_lor, k.xs, tb_lor, (tb_bit _ _).2 rfl]; simp
    have h2 : tb (Nat.lor c0.X (bit i)) s.last = false := by
      rw [tb_lor, k.nl]
      cases hb : tb (bit i) s.last with
      | false => rfl
      | true => have := (tb_bit _ _).1 hb; have := k.lt; omega
    rw [he'] at h1; rw [h1] at h2; cases h2
  refine ⟨hv, .head _, .tail _ (.tail _ hI.start), fun c' hc' => ?_, fun p hp => ?_, fun c1 h1' c2 h2' he' => ?_, fun j => ?_, fun c' hc' j hj => ?_, fun j o hj ho => ?_, fun p hp => ?_, (fun f n c0 hk => by cases hk), fun _ => rfl⟩
  · cases hc' with
    | head => exact lor_lt (pow_lt_succ hltc) (by omega)
    | tail _ hc' =>
      cases hc' with
      | head => exact lor_lt (pow_lt_succ hlt0) (by omega)
      | tail _ hc' => exact pow_lt_succ (hI.lt c' hc')
  · cases hp with
    | head => exact pow_lt_succ hltc
    | tail _ hp =>
      cases hp with
      | head => exact pow_lt_succ hlt0
      | tail _ hp =>
        cases hp with
        | head => exact lor_lt (pow_lt_succ hlt0) (by omega)
        | tail _ hp => exact pow_lt_succ (hI.elt p hp)
  · cases h1' with
    | head =>
      cases h2' with
      | head => rfl
      | tail _ h2' =>
        cases h2' with
        | head => exact absurd he' hcc
        | tail _ h2' => exact absurd he'.symm (hne _ h2' _)
    | tail _ h1' =>
      cases h1' with
      | head =>
        cases h2' with
        | head => exact absurd he'.symm hcc
        | tail _ h2' =>
          cases h2' with
          | head => rfl
          | tail _ h2' => exact absurd he'.symm (hne _ h2' _)
      | tail _ h1' =>
        cases h2' with
        | head => exact absurd he' (hne _ h1' _)
        | tail _ h2' =>
          cases h2' with
          | head => exact absurd he' (hne _ h1' _)
          | tail _ h2' => exact hI.uniq _ h1' _ h2' he'
  · show j ∈ i :: s.effs ↔ tb (Nat.lor s.cur.X (bit i)) j = true
    rw [tb_lor, Bool.or_eq_true, tb_bit, List.mem_cons, hI.effs]
    constructor
    · rintro (h | h)
      · exact .inr h.symm
      · exact .inl h
    · rintro (h | h)
      · exact .inr h
      · exact .inl h.symm
  · show tb (Nat.lor s.cur.X (bit i)) j = true
    cases hc' with
    | head => exact hj
    | tail _ hc' =>
      cases hc' with
      | head =>
        have hj : tb (Nat.lor c0.X (bit i)) j = true := hj
        rw [tb_lor, Bool.or_eq_true] at hj ⊢
        rcases hj with hj | hj
        · exact .inl (hI.sub c0 k.mem j hj)
        · exact .inr hj
      | tail _ hc' => rw [tb_lor, hI.sub c' hc' j hj]; rfl
  · by_cases hji : j = i
    · subst hji; exact .inr (.inr (.inr (.head _)))
    · exact (hI.stat j o (by omega) ho).ext hi (fun _ h => h) (fun _ h => .tail _ h)
  · cases hp with
    | head => exact ⟨s.cur, .tail _ (.tail _ hI.cur), rfl, v, _, lkp_head, .head _, rfl, E1.ext hi⟩
    | tail _ hp =>
      cases hp with
      | head => exact ⟨c0, .tail _ (.tail _ k.mem), rfl, v, _, lkp_head, .tail _ (.head _), rfl, E2.ext hi⟩
      | tail _ hp =>
        cases hp with
        | head =>
          refine ⟨_, .tail _ (.head _), rfl, ve, _, lkp_ext hi q6, .head _, ?_, E3.ext hi⟩
          show Nat.lor s.cur.X (bit i) = Nat.lor (Nat.lor c0.X (bit i)) (bit s.last)
          rw [k.xs]
          show (c0.X ||| bit s.last) ||| bit i = (c0.X ||| bit i) ||| bit s.last
          rw [Nat.or_assoc, Nat.or_comm (bit s.last), ← Nat.or_assoc]
        | tail _ hp =>
          obtain ⟨c1, g1, g2, u, c', g3, g4, g5, g6⟩ := hI.edge p hp
          exact ⟨c1, .tail _ (.tail _ g1), g2, u, c', lkp_ext hi g3, .tail _ (.tail _ g4), g5, g6.ext hi⟩

theorem drStep_ok (hX : XOk X GK) (hcf : OkCF X GK cf) (hG : ∀ k ∈ GK, k ∈ K) {i : Nat} {o : Oper} (ho : ops[i]? = some o) {s s' : Dr} (hI : DInv X K M w0 cf ops T n0 h0 i s) (hs : drStep X cf ops T (dstsOf ops 0) (ancs ops []) i o s = some s') : DInv X K M w0 cf ops T n0 h0 (i + 1) s' := by
  obtain ⟨hi, _⟩ := vals_next (v := .slz) hI.vals
  have hsub : ∀ v, Sub ops T ((i, v) :: s.vals) i (lookD ops T s.vals i) := fun v m av hm => look_ext hi hm
  unfold drStep at hs
  split at hs
  · cases hs
  · rename_i hg
    injection hs with hs; subst hs
    exact hI.val (fun _ h => h) fun o' ho' => by
      rw [ho] at ho'; injection ho' with ho'; subst ho'
      exact .inl ⟨_, hsub _, hg, lkp_head⟩
  · rename_i hg
    generalize hst : stepO X (look T (dstsOf ops 0) (ancs ops []) s.vals i) s.cur.h o = r at hs
    unfold drRes at hs
    split at hs
    · cases hs
    · rename_i v
      injection hs with hs; subst hs
      exact hI.val (fun _ h => h) fun o' ho' => by
        rw [ho] at ho'; injection ho' with ho'; subst ho'
        exact .inr (.inl ⟨_, _, v, hsub _, hg, hst, lkp_head⟩)
    · rename_i v
      injection hs with hs; subst hs
      exact hI.val (fun _ h => .tail _ h) fun o' ho' => by
        rw [ho] at ho'; injection ho' with ho'; subst ho'
        exact .inr (.inr (.inl ⟨_, v, hsub _, hg, lkp_head, .head _⟩))
    · rename_i v h
      unfold drEff at hs
      split at hs
      · injection hs with hs; subst hs
        exact hI.eff rfl (edge_eff hX hG ho hg hst) (fun f n c0 hk => by cases hk) (fun _ => rfl)
      · rename_i f n c0 hkept
        split at hs
        · rename_i hb
          rw [Bool.and_eq_true] at hb
          split at hs
          · rename_i v' h1 hr
            unfold drBoth at hs
            split at hs
            · rename_i ao hao
              injection hs with hs; subst hs
              exact hI.both hX hcf hG ho hkept hb.2 hg hr hao
            · cases hs
          · cases hs
        · cases hs
    · rename_i f args
      unfold drCall at hs
      split at hs
      · cases hs
      · rename_i hkept
        split at hs
        · split at hs
          · rename_i v h hc
            injection hs with hs; subst hs
            exact hI.eff rfl (edge_call hX hcf hG ho hg hst hc (.inl ⟨rfl, rfl⟩)) (fun f n c0 hk => by cases hk) (fun _ => rfl)
          · cases hs
        · rename_i j hj
          unfold drLoose at hs
          split at hs
          · cases hs
          · rename_i hgone
            split at hs
            · rename_i v h hc
              injection hs with hs; subst hs
              refine hI.eff rfl (edge_call hX hcf hG ho hg hst hc (.inr ⟨rfl, rfl⟩)) (fun f' n c0 hk => ?_) (fun hk => by cases hk)
              injection hk with hk; injection hk with e1 e2; injection e2 with e2 e3; subst e1; subst e2; subst e3
              refine ⟨.tail _ hI.cur, hI.keptN hkept, rfl, hgone, rfl, rfl, tb_lt (hI.lt _ hI.cur) (Nat.le_refl i), Nat.lt_succ_self i, o, _, _, f, args, v, ho, hsub v, hg, hst, hc, lkp_head⟩
            · cases hs

theorem drRun_ok (hX : XOk X GK) (hcf : OkCF X GK cf) (hG : ∀ k ∈ GK, k ∈ K) : ∀ {l : List Oper} {i : Nat} {s s' : Dr}, (∀ j, l[j]? = ops[i + j]?) → DInv X K M w0 cf ops T n0 h0 i s → drRun X cf ops T (dstsOf ops 0) (ancs ops []) l i s = some s' → DInv X K M w0 cf ops T n0 h0 (i + l.length) s'
  | [], i, s, s', _, hI, hs => by simp only [drRun] at hs; injection hs with hs; subst hs; exact hI
  | o :: r, i, s, s', hl, hI, hs => by
    unfold drRun at hs
    split at hs
    · rename_i s1 h1
      have ho : ops[i]? = some o := by rw [← Nat.add_zero i, ← hl 0]; rfl
      have := drRun_ok hX hcf hG (l := r) (i := i + 1) (fun j => by have := hl (j + 1); rw [Nat.add_assoc, Nat.add_comm 1 j, ← this]; rfl) (drStep_ok hX hcf hG ho hI h1) hs
      rw [List.length_cons]
      have e : i + (r.length + 1) = i + 1 + r.length := by omega
      rw [e]; exact this
    · cases hs
end
end Go.EV
