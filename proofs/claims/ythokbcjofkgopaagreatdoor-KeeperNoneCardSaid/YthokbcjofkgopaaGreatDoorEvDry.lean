/-
  Regions whose order is drawn: the table is kept right.
-/
import Derived.Test.YthokbcjofkgopaaGreatDoorEvDrx
namespace Go.EV
open Go Go.HL

def Fr (n0 : Nat) (c : Nd) (γ : Va) : Prop := n0 ≤ c.h.next ∧ ∀ n, c.free = some n → γ n = none ∧ n < c.h.next ∧ n0 ≤ n
noncomputable abbrev lookD (ops : List Oper) (T : Tr AV) (vals : List (Nat × AV)) (i : Nat) : Rho := look T (dstsOf ops 0) (ancs ops []) vals i
def EdgeOK (X : Sx) (K : List KP) (M : List Own) (w0 : World) (ops : List Oper) (T : Tr AV) (n0 : Nat) (vals : List (Nat × AV)) (c : Nd) (i : Nat) (v : AV) (c' : Nd) : Prop :=
  ∀ o, ops[i]? = some o → ∀ γ a w, EnvR γ (lookD ops T vals i) a → Fr n0 c γ → St ⟨K, hO γ c.h :: M⟩ w0 w →
    Region.wanted o (yielded ops.toArray a.tmps) = true ∧ ∀ (next : Act → World → Prop) (Qx : Exit → Act → World → Prop),
      (∀ u γ' w', IV γ' v u → Ext n0 γ γ' → Fr n0 c' γ' → St ⟨K, hO γ' c'.h :: M⟩ w0 w' → next (a.put o.dst u) w') → o.wp X.P a w next Qx
def Sub (ops : List Oper) (T : Tr AV) (vals : List (Nat × AV)) (i : Nat) (ρ : Rho) : Prop := ∀ m av, ρ m = some av → lookD ops T vals i m = some av
def Stat (X : Sx) (ops : List Oper) (T : Tr AV) (vals : List (Nat × AV)) (reads effs : List Nat) (j : Nat) (o : Oper) : Prop :=
  (∃ ρ, Sub ops T vals j ρ ∧ guardOn ops ρ o.guard = some false ∧ lkp vals j = some (.v undef)) ∨
  (∃ ρ h v, Sub ops T vals j ρ ∧ guardOn ops ρ o.guard = some true ∧ stepO X ρ h o = .pure v ∧ lkp vals j = some v) ∨
  (∃ ρ v, Sub ops T vals j ρ ∧ guardOn ops ρ o.guard = some true ∧ lkp vals j = some v ∧ j ∈ reads) ∨ j ∈ effs
structure KeptOK (X : Sx) (cf : CF) (ops : List Oper) (T : Tr AV) (i : Nat) (s : Dr) (n : Nat) (c0 : Nd) : Prop where
  mem : c0 ∈ s.nodes
  free0 : c0.free = none
  num : n = c0.h.next
  gone : tget c0.h.tr n = none
  free : s.cur.free = some n
  xs : s.cur.X = Nat.lor c0.X (bit s.last)
  nl : tb c0.X s.last = false
  lt : s.last < i
  call : ∃ oe ρe h f args ve, ops[s.last]? = some oe ∧ Sub ops T s.vals s.last ρe ∧ guardOn ops ρe oe.guard = some true ∧ stepO X ρe h oe = .call f args ∧ cf f args ⟨c0.h.tr, Nat.succ n⟩ = some (ve, s.cur.h) ∧ lkp s.vals s.last = some ve
structure DInv (X : Sx) (K : List KP) (M : List Own) (w0 : World) (cf : CF) (ops : List Oper) (T : Tr AV) (n0 : Nat) (h0 : Hp) (i : Nat) (s : Dr) : Prop where
  vals : ∀ j, (∃ v, lkp s.vals j = some v) ↔ j < i
  cur : s.cur ∈ s.nodes
  start : (⟨0, h0, none⟩ : Nd) ∈ s.nodes
  lt : ∀ c ∈ s.nodes, c.X < 2 ^ i
  elt : ∀ p ∈ s.edges, p.1 < 2 ^ i
  uniq : ∀ c ∈ s.nodes, ∀ c' ∈ s.nodes, c.X = c'.X → c = c'
  effs : ∀ j, j ∈ s.effs ↔ tb s.cur.X j = true
  sub : ∀ c ∈ s.nodes, ∀ j, tb c.X j = true → tb s.cur.X j = true
  stat : ∀ j o, j < i → ops[j]? = some o → Stat X ops T s.vals s.reads s.effs j o
  edge : ∀ p ∈ s.edges, ∃ c ∈ s.nodes, c.X = p.1 ∧ ∃ v c', lkp s.vals p.2 = some v ∧ c' ∈ s.nodes ∧ c'.X = Nat.lor p.1 (bit p.2) ∧ EdgeOK X K M w0 ops T n0 s.vals c p.2 v c'
  kept : ∀ f n c0, s.kept = some (f, n, c0) → KeptOK X cf ops T i s n c0
  keptN : s.kept = none → s.cur.free = none

section
variable {X : Sx} {GK K : List KP} {M : List Own} {w0 : World} {cf : CF} {ops : List Oper} {T : Tr AV} {n0 : Nat} {h0 : Hp}

theorem lkp_ext {vals : List (Nat × AV)} {i j : Nat} {v u : AV} (hi : lkp vals i = none) (hj : lkp vals j = some u) : lkp ((i, v) :: vals) j = some u := by
  unfold lkp
  cases hb : Nat.beq j i with
  | true =>
    have : j = i := Nat.eq_of_beq_eq_true hb
    subst this; rw [hi] at hj; cases hj
  | false => exact hj
theorem lkp_head {vals : List (Nat × AV)} {i : Nat} {v : AV} : lkp ((i, v) :: vals) i = some v := by simp [lkp]
theorem look_ext {vals : List (Nat × AV)} {i j m : Nat} {v av : AV} (hi : lkp vals i = none) (h : lookD ops T vals j m = some av) : lookD ops T ((i, v) :: vals) j m = some av := by
  unfold lookD look at h ⊢
  split at h
  · exact h
  · split at h
    · exact lkp_ext hi h
    · exact h
theorem Sub.ext {vals : List (Nat × AV)} {i j : Nat} {v : AV} {ρ : Rho} (hi : lkp vals i = none) (h : Sub ops T vals j ρ) : Sub ops T ((i, v) :: vals) j ρ := fun m av hm => look_ext hi (h m av hm)
theorem EdgeOK.ext {vals : List (Nat × AV)} {i j : Nat} {v u : AV} {c c' : Nd} (hi : lkp vals i = none) (h : EdgeOK X K M w0 ops T n0 vals c j u c') : EdgeOK X K M w0 ops T n0 ((i, v) :: vals) c j u c' :=
  fun o ho γ a w hE => h o ho γ a w fun m av hm => hE m av (look_ext hi hm)
theorem Stat.ext {vals : List (Nat × AV)} {i j : Nat} {v : AV} {o : Oper} {reads effs reads' effs' : List Nat} (hi : lkp vals i = none) (hr : ∀ k ∈ reads, k ∈ reads') (he : ∀ k ∈ effs, k ∈ effs') (h : Stat X ops T vals reads effs j o) : Stat X ops T ((i, v) :: vals) reads' effs' j o := by
  rcases h with ⟨ρ, h1, h2, h3⟩ | ⟨ρ, hh, u, h1, h2, h3, h4⟩ | ⟨ρ, u, h1, h2, h3, h4⟩ | h
  · exact .inl ⟨ρ, h1.ext hi, h2, lkp_ext hi h3⟩
  · exact .inr (.inl ⟨ρ, hh, u, h1.ext hi, h2, h3, lkp_ext hi h4⟩)
  · exact .inr (.inr (.inl ⟨ρ, u, h1.ext hi, h2, lkp_ext hi h3, hr _ h4⟩))
  · exact .inr (.inr (.inr (he _ h)))
theorem vals_next {vals : List (Nat × AV)} {i : Nat} {v : AV} (h : ∀ j, (∃ v, lkp vals j = some v) ↔ j < i) : lkp vals i = none ∧ ∀ j, (∃ u, lkp ((i, v) :: vals) j = some u) ↔ j < i + 1 := by
  have hi : lkp vals i = none := by
    cases hl : lkp vals i with
    | none => rfl
    | some u => exact absurd ((h i).1 ⟨u, hl⟩) (by omega)
  refine ⟨hi, fun j => ⟨fun ⟨u, hu⟩ => ?_, fun hj => ?_⟩⟩
  · unfold lkp at hu
    cases hb : Nat.beq j i with
    | true => have : j = i := Nat.eq_of_beq_eq_true hb; omega
    | false => rw [hb] at hu; have := (h j).1 ⟨u, hu⟩; omega
  · by_cases hji : j = i
    · subst hji; exact ⟨v, lkp_head⟩
    · obtain ⟨u, hu⟩ := (h j).2 (by omega)
      exact ⟨u, lkp_ext hi hu⟩
theorem pow_lt_succ {m i : Nat} (h : m < 2 ^ i) : m < 2 ^ (i + 1) := Nat.lt_trans h (Nat.pow_lt_pow_right (by decide) (by omega))

/-- An op that turns nothing is told. -/
theorem DInv.val {i : Nat} {s : Dr} {v : AV} {reads' : List Nat} (hI : DInv X K M w0 cf ops T n0 h0 i s) (hr : ∀ k ∈ s.reads, k ∈ reads') (hst : ∀ o, ops[i]? = some o → Stat X ops T ((i, v) :: s.vals) reads' s.effs i o) :
    DInv X K M w0 cf ops T n0 h0 (i + 1) ⟨(i, v) :: s.vals, s.cur, s.last, s.nodes, s.edges, s.effs, reads', s.kept⟩ := by
  obtain ⟨hi, hv⟩ := vals_next (v := v) hI.vals
  refine ⟨hv, hI.cur, hI.start, fun c hc => pow_lt_succ (hI.lt c hc), fun p hp => pow_lt_succ (hI.elt p hp), hI.uniq, hI.effs, hI.sub, fun j o hj ho => ?_, fun p hp => ?_, fun f n c0 hk => ?_, hI.keptN⟩
  · by_cases hji : j = i
    · subst hji; exact hst o ho
    · exact (hI.stat j o (by omega) ho).ext hi hr (fun _ h => h)
  · obtain ⟨c, h1, h2, u, c', h3, h4, h5, h6⟩ := hI.edge p hp
    exact ⟨c, h1, h2, u, c', lkp_ext hi h3, h4, h5, h6.ext hi⟩
  · have k := hI.kept f n c0 hk
    obtain ⟨oe, ρe, h, f', args, ve, q1, q2, q3, q4, q5, q6⟩ := k.call
    exact ⟨k.mem, k.free0, k.num, k.gone, k.free, k.xs, k.nl, Nat.lt_succ_of_lt k.lt, oe, ρe, h, f', args, ve, q1, q2.ext hi, q3, q4, q5, lkp_ext hi q6⟩

/-- An op that turns memory is told. -/
theorem DInv.eff {i : Nat} {s : Dr} {v : AV} {c : Nd} {kept' : Option (Nat × Nat × Nd)} (hI : DInv X K M w0 cf ops T n0 h0 i s) (hc : c.X = Nat.lor s.cur.X (bit i)) (he : EdgeOK X K M w0 ops T n0 s.vals s.cur i v c)
    (hk : ∀ f n c0, kept' = some (f, n, c0) → KeptOK X cf ops T (i + 1) (s.eff i v c kept') n c0) (hkn : kept' = none → c.free = none) : DInv X K M w0 cf ops T n0 h0 (i + 1) (s.eff i v c kept') := by
  obtain ⟨hi, hv⟩ := vals_next (v := v) hI.vals
  have hge : ∀ c' ∈ s.nodes, c'.X ≠ c.X := fun c' hc' he' => by
    have h1 := tb_lt (hI.lt c' hc') (Nat.le_refl i)
    have h2 : tb c.X i = true := by rw [hc, tb_lor, (tb_bit i i).2 rfl]; simp
    rw [he'] at h1; rw [h1] at h2; cases h2
  have hcl : c.X < 2 ^ (i + 1) := by rw [hc]; exact lor_lt (pow_lt_succ (hI.lt _ hI.cur)) (by omega)
  refine ⟨hv, .head _, .tail _ hI.start, fun c' hc' => ?_, fun p hp => ?_, fun c1 h1 c2 h2 he' => ?_, fun j => ?_, fun c' hc' j hj => ?_, fun j o hj ho => ?_, fun p hp => ?_, hk, hkn⟩
  · cases hc' with
    | head => exact hcl
    | tail _ hc' => exact pow_lt_succ (hI.lt c' hc')
  · cases hp with
    | head => exact pow_lt_succ (hI.lt _ hI.cur)
    | tail _ hp => exact pow_lt_succ (hI.elt p hp)
  · cases h1 with
    | head =>
      cases h2 with
      | head => rfl
      | tail _ h2 => exact absurd he'.symm (hge _ h2)
    | tail _ h1 =>
      cases h2 with
      | head => exact absurd he' (hge _ h1)
      | tail _ h2 => exact hI.uniq _ h1 _ h2 he'
  · show j ∈ i :: s.effs ↔ tb c.X j = true
    rw [hc, tb_lor, Bool.or_eq_true, tb_bit, List.mem_cons, hI.effs]
    constructor
    · rintro (h | h)
      · exact .inr h.symm
      · exact .inl h
    · rintro (h | h)
      · exact .inr h
      · exact .inl h.symm
  · show tb c.X j = true
    cases hc' with
    | head => exact hj
    | tail _ hc' => rw [hc, tb_lor, hI.sub c' hc' j hj]; rfl
  · by_cases hji : j = i
    · subst hji; exact .inr (.inr (.inr (.head _)))
    · exact (hI.stat j o (by omega) ho).ext hi (fun _ h => h) (fun _ h => .tail _ h)
  · cases hp with
    | head => exact ⟨s.cur, .tail _ hI.cur, rfl, v, c, lkp_head, .head _, hc, he.ext hi⟩
    | tail _ hp =>
      obtain ⟨c1, h1, h2, u, c', h3, h4, h5, h6⟩ := hI.edge p hp
      exact ⟨c1, .tail _ h1, h2, u, c', lkp_ext hi h3, .tail _ h4, h5, h6.ext hi⟩

theorem EnvR.sub {γ : Va} {vals : List (Nat × AV)} {i : Nat} {ρ : Rho} {a : Act} (hs : Sub ops T vals i ρ) (hE : EnvR γ (lookD ops T vals i) a) : EnvR γ ρ a := fun m av hm => hE m av (hs m av hm)
theorem Fr.none {c : Nd} {γ : Va} (h : n0 ≤ c.h.next) (hf : c.free = .none) : Fr n0 c γ := ⟨h, fun n hn => by rw [hf] at hn; cases hn⟩

/-- The edge of an op that turns memory by itself. -/
theorem edge_eff (hX : XOk X GK) (hG : ∀ k ∈ GK, k ∈ K) {i : Nat} {o : Oper} (ho : ops[i]? = some o) {vals : List (Nat × AV)} {c : Nd} {v : AV} {h : Hp} {x : Nat} (hg : guardOn ops (lookD ops T vals i) o.guard = some true) (hr : stepO X (lookD ops T vals i) c.h o = .eff v h) :
    EdgeOK X K M w0 ops T n0 vals c i v ⟨x, h, .none⟩ := by
  intro o' ho' γ a w hE hf hs
  rw [ho] at ho'; injection ho' with ho'; subst ho'
  refine ⟨guard_ok hE hg, fun next Qx hn => ?_⟩
  have hgood := step_ok (o := o) hX hG hE hs
  rw [hr] at hgood
  obtain ⟨nx, u, w', γ', h1, hnx, h2, h3, h4, h5⟩ := hgood
  unfold Oper.wp
  rw [h1]
  have hfr : Fr n0 ⟨x, h, .none⟩ γ' := Fr.none (Nat.le_trans hf.1 h4) rfl
  rcases hnx with rfl | ⟨rfl, rfl⟩
  · exact hn u γ' w' h2 (h3.less hf.1) hfr h5
  · exact hn undef γ' w' h2 (h3.less hf.1) hfr h5
/-- The edge of a call. -/
theorem edge_call (hX : XOk X GK) (hcf : OkCF X GK cf) (hG : ∀ k ∈ GK, k ∈ K) {i : Nat} {o : Oper} (ho : ops[i]? = some o) {vals : List (Nat × AV)} {c : Nd} {v : AV} {h h1 : Hp} {x : Nat} {f : FuncId} {args : List AV} {fr : Option Nat} (hg : guardOn ops (lookD ops T vals i) o.guard = some true)
    (hr : stepO X (lookD ops T vals i) c.h o = .call f args) (hc : cf f args h1 = some (v, h)) (hh : (h1 = c.h ∧ fr = .none) ∨ (h1 = ⟨c.h.tr, Nat.succ c.h.next⟩ ∧ fr = some c.h.next)) :
    EdgeOK X K M w0 ops T n0 vals c i v ⟨x, h, fr⟩ := by
  intro o' ho' γ a w hE hf hs
  rw [ho] at ho'; injection ho' with ho'; subst ho'
  refine ⟨guard_ok hE hg, fun next Qx hn => ?_⟩
  have hgood := step_ok (o := o) hX hG hE hs
  rw [hr] at hgood
  obtain ⟨us, e1, e2⟩ := hgood
  unfold Oper.wp
  rw [e1]
  rcases hh with ⟨rfl, rfl⟩ | ⟨rfl, rfl⟩
  · exact hcf f args c.h v h hc γ us K M w0 w e2 hG hs o a next Qx fun u γ' w' h2 h3 h4 h5 => hn u γ' w' h2 (h3.less hf.1) (Fr.none (Nat.le_trans hf.1 h4) rfl) h5
  · refine hcf f args _ v h hc γ us K M w0 w e2 hG (st_more hs (Nat.le_succ _)) o a next Qx fun u γ' w' h2 h3 h4 h5 => hn u γ' w' h2 (h3.less (Nat.le_trans hf.1 (Nat.le_succ _))) ⟨Nat.le_trans hf.1 (Nat.le_trans (Nat.le_succ _) h4), fun n hn' => ?_⟩ h5
    injection hn' with hn'; subst hn'
    exact ⟨by rw [h3.same _ (Nat.lt_succ_self _)]; exact st_fresh hs (Nat.le_refl _), h4, hf.1⟩
end
end Go.EV
