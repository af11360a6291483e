/-
  Tables as tries: what is to be shown of them.
-/
import Derived.Test.YthokbcjofkgopaaGreatDoorEvTop
namespace Go.EV
open Go Go.HL

def tiOf (i : TypeInfo) (u : TypeDesc) : TI := ⟨u, i.size, i.bytes, i.zero.getD undef, isAggD u⟩
def fiOf (f : Func) : FI := ⟨f.body, f.ntmps, f.results.toList⟩
def fldB (P : Program) : TypeDesc → Bool
  | .struct fs => fs.toList.all fun f => (P.info? f.type).isSome
  | _ => true
theorem tok_mk {P : Program} {t : Nat} {i : TypeInfo} {u : TypeDesc} (hi : P.info? t = some i) (hz : i.zero.isSome = true) (hu : P.underlying t = some u) (hs : (i.zero.getD undef).cells.size = i.size) (hf : fldB P u = true) : TOk P t (tiOf i u) := by
  refine ⟨⟨i, hi, rfl, rfl, ?_⟩, hu, hs, rfl, fun fs hfs f hfm => ?_⟩
  · obtain ⟨z, hz⟩ := Option.isSome_iff_exists.1 hz
    simp [tiOf, hz]
  · have hfs : u = .struct fs := hfs
    subst hfs
    have := List.all_eq_true.1 hf f hfm
    exact Option.isSome_iff_exists.1 this
def FOk (P : Program) (f : Nat) (fi : FI) : Prop := ∃ fn, P.funcs[f]? = some fn ∧ fn.body = fi.body ∧ fn.results.toList = fi.res ∧ fn.ntmps = fi.n ∧ (∀ c, fi.body = some c → fn.name ≠ "runtime.NumGoroutine" ∧ cdOk fi.n c = true)
def fokB (fn : Func) : Bool := match fn.body with
  | some c => !(fn.name == "runtime.NumGoroutine") && cdOk fn.ntmps c
  | none => true
theorem fok_mk {P : Program} {f : Nat} {fn : Func} (hf : P.funcs[f]? = some fn) (hb : fokB fn = true) : FOk P f (fiOf fn) := by
  refine ⟨fn, hf, rfl, rfl, rfl, fun c hc => ?_⟩
  unfold fokB at hb
  have hc : fn.body = some c := hc
  rw [hc] at hb
  simp only [Bool.and_eq_true, Bool.not_eq_true'] at hb
  exact ⟨fun h => by rw [h] at hb; simp at hb, hb.2⟩
def isTrueR : Option (AV × Hp) → Bool
  | some (.v (.bool b), _) => b
  | _ => false
theorem isTrueR_ok {r : Option (AV × Hp)} (h : isTrueR r = true) : ∃ h', r = some (.v (.bool true), h') := by
  unfold isTrueR at h
  split at h
  · rename_i b h'; subst h; exact ⟨h', rfl⟩
  · cases h
theorem closed_true {X : Sx} {GK : List KP} (hX : XOk X GK) {g fuel n : Nat} {fn : Func} {c : Code} (vs : List Value) (hfn : X.P.funcs[g]? = some fn) (hb : fn.body = some c) (hname : fn.name ≠ "runtime.NumGoroutine") (h : isTrueR (callF X (evC X fuel) g (vs.map .v) ⟨.e, n⟩) = true) :
    HL.Fn X.P g vs ⟨GK, []⟩ (fun v s' => v = .bool true ∧ s' = ⟨GK, []⟩) := by
  obtain ⟨h', he⟩ := isTrueR_ok h
  exact call_closed_args hX vs hfn hb hname he
def AllT {α : Type} (p : Nat → α → Prop) : Tr α → (Nat → Nat) → Prop
  | .e, _ => True
  | .n l v r, f => (∀ x, v = some x → p (f 1) x) ∧ AllT p l (fun k => f (2 * k)) ∧ AllT p r (fun k => f (2 * k + 1))
theorem AllT.get {α : Type} {p : Nat → α → Prop} : ∀ {t : Tr α} {f : Nat → Nat} {k : Nat} {x : α}, AllT p t f → 1 ≤ k → t.get k = some x → p (f k) x := by
  intro t
  induction t with
  | e => intro f k x _ _ h; rw [Tr.get_e] at h; cases h
  | n l v r ihl ihr =>
    intro f k x h h1 hg
    obtain ⟨a, b, c⟩ := h
    rw [Tr.get_n] at hg
    split at hg
    · rename_i hk; subst hk; exact a x hg
    · split at hg
      · rename_i hk1 hk2
        have := ihl b (by omega) hg
        have e : 2 * (k / 2) = k := by omega
        rwa [e] at this
      · rename_i hk1 hk2
        have := ihr c (by omega) hg
        have e : 2 * (k / 2) + 1 = k := by omega
        rwa [e] at this
theorem xok_mk {P : Program} {tt : Tr TI} {ft : Tr FI} {gt : Tr (List Value)} {GK : List KP} (h1 : AllT (fun k x => TOk P (k - 1) x) tt id) (h2 : AllT (fun k x => FOk P (k - 1) x) ft id) (h3 : AllT (fun k x => gK (k - 1) x ∈ GK) gt id) (hm : P.follows .mixedOrders = true) :
    XOk ⟨P, tget tt, tget ft, tget gt⟩ GK :=
  ⟨fun t ti h => by have := h1.get (k := t + 1) (by omega) h; simpa using this, fun g l h => by have := h3.get (k := g + 1) (by omega) h; simpa using this, fun f fi h => by have := h2.get (k := f + 1) (by omega) h; simpa [FOk] using this, hm⟩
end Go.EV
