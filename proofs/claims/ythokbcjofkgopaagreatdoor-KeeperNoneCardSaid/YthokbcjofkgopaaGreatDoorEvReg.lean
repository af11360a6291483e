/-
  Regions whose order is the text's.
-/
import Derived.Test.YthokbcjofkgopaaGreatDoorEvStp6
namespace Go.EV
open Go Go.HL

/-- What is known of a call. -/
def OkCF (X : Sx) (GK : List KP) (cf : CF) : Prop :=
  ∀ f args h v h', cf f args h = some (v, h') → ∀ (γ : Va) (us : List Value) (K : List KP) (M : List Own) (w0 w : World), IVL γ args us → (∀ k ∈ GK, k ∈ K) → St ⟨K, hO γ h :: M⟩ w0 w →
    ∀ (o : Oper) (a : Act) (next : Act → World → Prop) (Qx : Exit → Act → World → Prop), (∀ u γ' w', IV γ' v u → Ext h.next γ γ' → h.next ≤ h'.next → St ⟨K, hO γ' h' :: M⟩ w0 w' → next (a.put o.dst u) w') → o.upon X.P a next Qx ((callFunc f us.toArray).run X.P w)

structure SatA (N : Nat) (K : List KP) (M : List Own) (w0 : World) (γ : Va) (T : Tr AV) (h : Hp) (a : Act) (w : World) : Prop where
  defers : a.defers = []
  size : a.tmps.size = N
  env : EnvR γ (tget T) a
  st : St ⟨K, hO γ h :: M⟩ w0 w

theorem EnvR.mono {γ γ' : Va} {ρ : Rho} {a : Act} (h : EnvR γ ρ a) (hle : Le γ γ') : EnvR γ' ρ a := fun n av hn => (h n av hn).mono hle

section
variable {X : Sx} {GK K : List KP} {M : List Own} {γ : Va} {ρ : Rho} {h h' : Hp} {w0 w : World} {a : Act} {o : Oper} {cf : CF}

theorem env_put {N : Nat} {T : Tr AV} (hE : EnvR γ (tget T) a) (hN : a.tmps.size = N) {d : Option Nat} (hd : (match d with | some d => Nat.blt d N | none => true) = true) {v : AV} {u : Value} (hv : IV γ v u) : EnvR γ (tget (putT T d v)) (a.put d u) := by
  cases d with
  | none => exact hE
  | some d =>
    intro n av hn
    simp only [putT] at hn
    rw [tget_tset] at hn
    show IV γ av ((a.tmps.setIfInBounds d u).getD n undef)
    rw [getD_set _ _ _ _ (by rw [hN]; simpa [Nat.blt_eq] using hd)]
    by_cases hnd : n = d
    · rw [if_pos hnd] at hn ⊢
      injection hn with hn; subst hn; exact hv
    · rw [if_neg hnd] at hn ⊢
      exact hE n av hn

theorem guard_ok {ops : List Oper} (hE : EnvR γ ρ a) {r : Bool} (hg : guardOn ops ρ o.guard = some r) : Region.wanted o (yielded ops.toArray a.tmps) = r := by
  unfold guardOn at hg
  unfold Region.wanted
  split at hg
  · rename_i h1; rw [h1]; injection hg
  · rename_i j b h1
    rw [h1]
    simp only
    split at hg
    · rename_i oj hoj
      split at hg
      · rename_i d hd
        have hb : (ops.toArray[j]?).bind (·.dst) = some d := by simp [hoj, hd]
        unfold gdV at hg
        split at hg
        · rename_i c hc
          injection hg with hg; subst hg
          have := iv_v.1 (hE d _ hc)
          have hlk : a.tmps[d]? = some (.bool c) := by
            rcases Nat.lt_or_ge d a.tmps.size with hlt | hge
            · rw [Array.getElem?_eq_getElem hlt]; congr 1; simpa [Array.getD, hlt] using this
            · exfalso
              have hz : a.tmps.getD d undef = undef := by simp [Array.getD, Nat.not_lt.2 hge]
              rw [hz] at this; simp [undef] at this
          unfold yielded
          rw [hb]
          simp only [Option.bind_some, hlk]
          cases c <;> cases b <;> rfl
        · rename_i q hc
          injection hg with hg; subst hg
          have := iv_v.1 (hE d _ hc)
          have hlk : a.tmps[d]? = none ∨ a.tmps[d]? = some (.tuple q) := by
            rcases Nat.lt_or_ge d a.tmps.size with hlt | hge
            · right; rw [Array.getElem?_eq_getElem hlt]; congr 1; simpa [Array.getD, hlt] using this
            · left; exact Array.getElem?_eq_none hge
          unfold yielded
          rw [hb]
          rcases hlk with hlk | hlk <;> simp only [Option.bind_some, hlk] <;> rfl
        · cases hg
      · cases hg
    · cases hg

/-- A step, whatever comes behind it. -/
theorem fin_ok (hX : XOk X GK) (hcf : OkCF X GK cf) (hG : ∀ k ∈ GK, k ∈ K) {v : AV} (hf : fin cf h (stepO X ρ h o) = some (v, h')) (hE : EnvR γ ρ a) (hs : St ⟨K, hO γ h :: M⟩ w0 w) :
    ∀ (next : Act → World → Prop) (Qx : Exit → Act → World → Prop), (∀ u γ' w', IV γ' v u → Ext h.next γ γ' → h.next ≤ h'.next → St ⟨K, hO γ' h' :: M⟩ w0 w' → next (a.put o.dst u) w') → o.wp X.P a w next Qx := by
  have hg := step_ok (o := o) hX hG hE hs
  unfold fin at hf
  split at hf
  · cases hf
  · rename_i v' hr
    injection hf with hf; injection hf with e1 e2; subst e1; subst e2
    rw [hr] at hg
    obtain ⟨u, h1, h2⟩ := hg
    intro next Qx hn
    unfold Oper.wp
    rw [h1]
    exact hn u γ w h2 (Ext.refl _ _) (Nat.le_refl _) hs
  · rename_i v' hr
    injection hf with hf; injection hf with e1 e2; subst e1; subst e2
    rw [hr] at hg
    obtain ⟨u, h1, h2⟩ := hg
    intro next Qx hn
    unfold Oper.wp
    rw [h1]
    exact hn u γ w h2 (Ext.refl _ _) (Nat.le_refl _) hs
  · rename_i v' h2 hr
    injection hf with hf; injection hf with e1 e2; subst e1; subst e2
    rw [hr] at hg
    obtain ⟨nx, u, w', γ', h1, hnx, h2, h3, h4, h5⟩ := hg
    intro next Qx hn
    unfold Oper.wp
    rw [h1]
    rcases hnx with rfl | ⟨rfl, rfl⟩
    · exact hn u γ' w' h2 h3 h4 h5
    · exact hn undef γ' w' h2 h3 h4 h5
  · rename_i f args hr
    rw [hr] at hg
    obtain ⟨us, h1, h2⟩ := hg
    have h4 := hcf f args h v h' hf
    intro next Qx hn
    unfold Oper.wp
    rw [h1]
    exact h4 γ us K M w0 w h2 hG hs o a next Qx hn

def exitOf : Ex → Exit
  | .norm => .normal
  | .exit id => .exit id
  | .ret => .ret
/-- How a piece of code ends. -/
def PostX (N : Nat) (K : List KP) (M : List Own) (w0 : World) (γ : Va) (n : Nat) (x : Ex) (T : Tr AV) (h : Hp) : Exit → Act → World → Prop :=
  fun e a w => e = exitOf x ∧ n ≤ h.next ∧ ∃ γ', Ext n γ γ' ∧ SatA N K M w0 γ' T h a w

def dOkL (N : Nat) (l : List Oper) : Bool := l.all fun o => match o.dst with
  | some d => Nat.blt d N
  | none => true

theorem SatA.put {N : Nat} {T : Tr AV} {γ' : Va} {w' : World} (hs : SatA N K M w0 γ T h a w) (hle : Le γ γ') {d : Option Nat} (hd : (match d with | some d => Nat.blt d N | none => true) = true) {v : AV} {u : Value} (hv : IV γ' v u) (hst : St ⟨K, hO γ' h' :: M⟩ w0 w') :
    SatA N K M w0 γ' (putT T d v) h' (a.put d u) w' := by
  refine ⟨?_, ?_, env_put (hs.env.mono hle) hs.size hd hv, hst⟩
  · cases d <;> exact hs.defers
  · cases d <;> simp [Act.put, hs.size]

theorem evOps_ok (hX : XOk X GK) (hcf : OkCF X GK cf) (hG : ∀ k ∈ GK, k ∈ K) {N : Nat} {ops : List Oper} {γ0 : Va} {n0 : Nat} : ∀ {l : List Oper} {T T' : Tr AV} {h h' : Hp} {γ : Va} {a : Act} {w : World}, evOps X cf ops l T h = some (T', h') → dOkL N l = true → SatA N K M w0 γ T h a w →
    Ext n0 γ0 γ → n0 ≤ h.next → wpList X.P ops.toArray (PostX N K M w0 γ0 n0 .norm T' h') l a w := by
  intro l
  induction l with
  | nil =>
    intro T T' h h' γ a w he hd hs hx hn
    have he : some (T, h) = some (T', h') := he
    injection he with he; injection he with e1 e2; subst e1; subst e2
    exact ⟨rfl, hn, γ, hx, hs⟩
  | cons o r ih =>
    intro T T' h h' γ a w he hd hs hx hn
    have he : (match guardOn ops (tget T) o.guard with
      | none => none
      | some false => evOps X cf ops r (putT T o.dst (.v undef)) h
      | some true => match fin cf h (stepO X (tget T) h o) with
        | some (a, h) => evOps X cf ops r (putT T o.dst a) h
        | none => none) = some (T', h') := he
    unfold dOkL at hd
    rw [List.all_cons, Bool.and_eq_true] at hd
    split at he
    · cases he
    · rename_i hg
      have hw := guard_ok hs.env hg
      have := ih he hd.2 (hs.put (Le.refl _) hd.1 (iv_v.2 rfl) hs.st) hx hn
      unfold wpList
      rw [if_neg (by rw [hw]; decide)]
      exact this
    · rename_i hg
      have hw := guard_ok hs.env hg
      split at he
      · rename_i v h1 hf
        have q2 := fin_ok hX hcf hG hf hs.env hs.st
        unfold wpList
        rw [if_pos hw]
        refine .inl (q2 _ _ fun u γ' w' hv hx' hnn hst => ?_)
        exact ih he hd.2 (hs.put hx'.le hd.1 hv hst) (hx.trans hx' hn) (Nat.le_trans hn hnn)
      · cases he
end
end Go.EV
