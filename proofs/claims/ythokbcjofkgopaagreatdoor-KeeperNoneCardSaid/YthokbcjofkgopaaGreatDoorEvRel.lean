/-
  What the runner's values and blocks stand for: a valuation tells each virtual block's number and capacity.
-/
import Derived.Test.YthokbcjofkgopaaGreatDoorEvTri
import Derived.Test.YthokbcjofkgopaaGreatDoorHlCall
namespace Go.EV
open Go Go.HL

/-- A virtual block's number, and the elements that it has room for. -/
abbrev Va := Nat → Option (Nat × Nat)

def capOf (c e0 : Nat) : Option Nat → Nat
  | some k => k
  | none => c - e0
mutual
def IV (γ : Va) : AV → Value → Prop
  | .v x, y => y = x
  | .ptr b off, y => ∃ g c, γ b = some (g, c) ∧ y = .pointer (some ⟨g, off, none⟩)
  | .sl b e0 sz len cap, y => ∃ g c, γ b = some (g, c) ∧ y = .slice (some ⟨g, e0 * sz, none⟩) len (capOf c e0 cap)
  | .slz, y => ∃ a c, y = .slice (some a) 0 c
  | .map b, y => ∃ g c, γ b = some (g, c) ∧ y = .map (some g)
  | .fn f a b, y => ∃ us ws, IVL γ a us ∧ IVL γ b ws ∧ y = .func (.func f) us.toArray ws.toArray
  | .iface t x, y => ∃ u, IV γ x u ∧ y = .iface t u
  | .agg l, y => ∃ us, IVL γ l us ∧ y = .agg us.toArray
  | .tup l, y => ∃ us, IVL γ l us ∧ y = .tuple us.toArray
def IVL (γ : Va) : List AV → List Value → Prop
  | [], ys => ys = []
  | a :: l, ys => ∃ u us, ys = u :: us ∧ IV γ a u ∧ IVL γ l us
end

def Le (γ γ' : Va) : Prop := ∀ b p, γ b = some p → γ' b = some p
theorem Le.refl (γ : Va) : Le γ γ := fun _ _ h => h
theorem Le.trans {γ γ' γ'' : Va} (h : Le γ γ') (h' : Le γ' γ'') : Le γ γ'' := fun b p x => h' b p (h b p x)

mutual
theorem IV.mono {γ γ' : Va} (h : Le γ γ') : ∀ (a : AV) (y : Value), IV γ a y → IV γ' a y
  | .v _, _, hy => by simpa [IV] using hy
  | .ptr _ _, _, hy => by
    simp only [IV] at hy ⊢
    obtain ⟨g, c, h1, h2⟩ := hy; exact ⟨g, c, h _ _ h1, h2⟩
  | .sl _ _ _ _ _, _, hy => by
    simp only [IV] at hy ⊢
    obtain ⟨g, c, h1, h2⟩ := hy; exact ⟨g, c, h _ _ h1, h2⟩
  | .slz, _, hy => by simpa [IV] using hy
  | .map _, _, hy => by
    simp only [IV] at hy ⊢
    obtain ⟨g, c, h1, h2⟩ := hy; exact ⟨g, c, h _ _ h1, h2⟩
  | .fn _ a b, _, hy => by
    simp only [IV] at hy ⊢
    obtain ⟨us, ws, h1, h2, h3⟩ := hy
    exact ⟨us, ws, IVL.mono h a us h1, IVL.mono h b ws h2, h3⟩
  | .iface _ x, _, hy => by
    simp only [IV] at hy ⊢
    obtain ⟨u, h1, h2⟩ := hy
    exact ⟨u, IV.mono h x u h1, h2⟩
  | .agg l, _, hy => by
    simp only [IV] at hy ⊢
    obtain ⟨us, h1, h2⟩ := hy
    exact ⟨us, IVL.mono h l us h1, h2⟩
  | .tup l, _, hy => by
    simp only [IV] at hy ⊢
    obtain ⟨us, h1, h2⟩ := hy
    exact ⟨us, IVL.mono h l us h1, h2⟩
theorem IVL.mono {γ γ' : Va} (h : Le γ γ') : ∀ (l : List AV) (ys : List Value), IVL γ l ys → IVL γ' l ys
  | [], _, hy => by simpa [IVL] using hy
  | a :: l, _, hy => by
    simp only [IVL] at hy ⊢
    obtain ⟨u, us, h1, h2, h3⟩ := hy
    exact ⟨u, us, h1, IV.mono h a u h2, IVL.mono h l us h3⟩
end

section
variable {γ : Va}
theorem iv_v {x y : Value} : IV γ (.v x) y ↔ y = x := by simp [IV]
theorem ivl_nil {ys : List Value} : IVL γ [] ys ↔ ys = [] := by simp [IVL]
theorem ivl_cons {a : AV} {l : List AV} {ys : List Value} : IVL γ (a :: l) ys ↔ ∃ u us, ys = u :: us ∧ IV γ a u ∧ IVL γ l us := by simp [IVL]
theorem IVL.nil : IVL γ [] [] := ivl_nil.2 rfl
theorem IVL.cons {a : AV} {l : List AV} {u : Value} {us : List Value} (h : IV γ a u) (h' : IVL γ l us) : IVL γ (a :: l) (u :: us) := ivl_cons.2 ⟨u, us, rfl, h, h'⟩
theorem IVL.len : ∀ {l : List AV} {ys : List Value}, IVL γ l ys → ys.length = l.length := by
  intro l
  induction l with
  | nil => intro ys h; rw [ivl_nil.1 h]; rfl
  | cons a l ih => intro ys h; obtain ⟨u, us, rfl, _, h2⟩ := ivl_cons.1 h; simp [ih h2]
theorem IVL.append {l' : List AV} {ys' : List Value} (h' : IVL γ l' ys') : ∀ {l : List AV} {ys : List Value}, IVL γ l ys → IVL γ (l ++ l') (ys ++ ys') := by
  intro l
  induction l with
  | nil => intro ys h; rw [ivl_nil.1 h]; simpa using h'
  | cons a l ih => intro ys h; obtain ⟨u, us, rfl, h1, h2⟩ := ivl_cons.1 h; exact IVL.cons h1 (ih h2)
theorem IVL.take : ∀ {l : List AV} {ys : List Value} (n : Nat), IVL γ l ys → IVL γ (l.take n) (ys.take n) := by
  intro l
  induction l with
  | nil => intro ys n h; rw [ivl_nil.1 h]; simpa using IVL.nil
  | cons a l ih =>
    intro ys n h; obtain ⟨u, us, rfl, h1, h2⟩ := ivl_cons.1 h
    cases n with
    | zero => simpa using IVL.nil
    | succ n => simpa using IVL.cons h1 (ih n h2)
theorem IVL.drop : ∀ {l : List AV} {ys : List Value} (n : Nat), IVL γ l ys → IVL γ (l.drop n) (ys.drop n) := by
  intro l
  induction l with
  | nil => intro ys n h; rw [ivl_nil.1 h]; simpa using IVL.nil
  | cons a l ih =>
    intro ys n h; obtain ⟨u, us, rfl, h1, h2⟩ := ivl_cons.1 h
    cases n with
    | zero => simpa using IVL.cons h1 h2
    | succ n => simpa using ih n h2
theorem IVL.get : ∀ {l : List AV} {ys : List Value} (i : Nat) {a : AV}, IVL γ l ys → l[i]? = some a → ∃ u, ys[i]? = some u ∧ IV γ a u := by
  intro l
  induction l with
  | nil => intro ys i a h hi; simp at hi
  | cons b l ih =>
    intro ys i a h hi; obtain ⟨u, us, rfl, h1, h2⟩ := ivl_cons.1 h
    cases i with
    | zero => simp at hi; subst hi; exact ⟨u, rfl, h1⟩
    | succ i => simpa using ih i h2 (by simpa using hi)
theorem ivl_map_v : ∀ (l : List Value), IVL γ (l.map .v) l
  | [] => IVL.nil
  | _x :: l => IVL.cons (iv_v.2 rfl) (ivl_map_v l)
theorem IVL.map_v {l ys : List Value} (h : IVL γ (l.map .v) ys) : ys = l := by
  induction l generalizing ys with
  | nil => exact ivl_nil.1 h
  | cons x l ih =>
    obtain ⟨u, us, rfl, h1, h2⟩ := ivl_cons.1 (by simpa using h)
    rw [iv_v.1 h1, ih h2]
theorem allV_eq : ∀ {l : List AV} {vs : List Value}, allV l = some vs → l = vs.map .v := by
  intro l
  induction l with
  | nil => intro vs h; simp [allV] at h; subst h; rfl
  | cons a l ih =>
    intro vs h
    cases a with
    | v x =>
      simp only [allV] at h
      cases hl : allV l with
      | none => rw [hl] at h; cases h
      | some us => rw [hl] at h; injection h with h; subst h; rw [ih hl]; rfl
    | _ => simp [allV] at h
theorem iv_mkAgg {l : List AV} {us : List Value} (h : IVL γ l us) : IV γ (mkAgg l) (.agg us.toArray) := by
  unfold mkAgg
  cases hl : allV l with
  | none => simp only [IV]; exact ⟨us, h, rfl⟩
  | some vs =>
    have := allV_eq hl
    subst this
    rw [h.map_v]; simp [IV]
theorem iv_mkTup {l : List AV} {us : List Value} (h : IVL γ l us) : IV γ (mkTup l) (.tuple us.toArray) := by
  unfold mkTup
  cases hl : allV l with
  | none => simp only [IV]; exact ⟨us, h, rfl⟩
  | some vs =>
    have := allV_eq hl
    subst this
    rw [h.map_v]; simp [IV]
theorem cells_v (u : Value) : (∀ a, u ≠ .agg a) → u.cells = #[u] := by
  intro h; cases u <;> first | rfl | exact absurd rfl (h _)
theorem iv_cellsA {a : AV} {u : Value} (h : IV γ a u) : IVL γ (cellsA a) u.cells.toList := by
  have one : ∀ {a : AV} {u : Value}, IV γ a u → (∀ x, u ≠ .agg x) → IVL γ [a] u.cells.toList := fun h hn => by
    rw [cells_v _ hn]; exact IVL.cons h IVL.nil
  cases a with
  | v x =>
    have := iv_v.1 h
    subst this
    cases u with
    | agg a => exact ivl_map_v _
    | _ => exact one h (by intro x hx; cases hx)
  | agg l =>
    simp only [IV] at h
    obtain ⟨us, h1, rfl⟩ := h
    exact h1
  | ptr b off => obtain ⟨g, c, _, rfl⟩ := id (by simpa [IV] using h); exact one h (by intro x hx; cases hx)
  | sl b e0 sz len cap => simp only [IV] at h; have h0 := h; obtain ⟨g, c, _, rfl⟩ := h; exact one (by simp only [IV]; exact h0) (by intro x hx; cases hx)
  | slz => simp only [IV] at h; have h0 := h; obtain ⟨g, c, rfl⟩ := h; exact one (by simp only [IV]; exact h0) (by intro x hx; cases hx)
  | map b => simp only [IV] at h; have h0 := h; obtain ⟨g, c, _, rfl⟩ := h; exact one (by simp only [IV]; exact h0) (by intro x hx; cases hx)
  | fn f a b => simp only [IV] at h; have h0 := h; obtain ⟨_, _, _, _, rfl⟩ := h; exact one (by simp only [IV]; exact h0) (by intro x hx; cases hx)
  | iface t x => simp only [IV] at h; have h0 := h; obtain ⟨_, _, rfl⟩ := h; exact one (by simp only [IV]; exact h0) (by intro x hx; cases hx)
  | tup l => simp only [IV] at h; have h0 := h; obtain ⟨_, _, rfl⟩ := h; exact one (by simp only [IV]; exact h0) (by intro x hx; cases hx)
theorem iv_one {a : AV} {u : Value} (h : IV γ a u) (h1 : oneA a = true) : u.oneCell' = true := by
  cases a with
  | v x => have := iv_v.1 h; subst this; simpa [oneA] using h1
  | agg l => simp [oneA] at h1
  | tup l => simp [oneA] at h1
  | ptr b off => simp only [IV] at h; obtain ⟨g, c, _, rfl⟩ := h; rfl
  | sl b e0 sz len cap => simp only [IV] at h; obtain ⟨g, c, _, rfl⟩ := h; rfl
  | slz => simp only [IV] at h; obtain ⟨g, c, rfl⟩ := h; rfl
  | map b => simp only [IV] at h; obtain ⟨g, c, _, rfl⟩ := h; rfl
  | fn f a b => simp only [IV] at h; obtain ⟨_, _, _, _, rfl⟩ := h; rfl
  | iface t x => simp only [IV] at h; obtain ⟨_, _, rfl⟩ := h; rfl
theorem IVL.one : ∀ {l : List AV} {us : List Value}, IVL γ l us → l.all oneA = true → ∀ u ∈ us, u.oneCell' = true := by
  intro l
  induction l with
  | nil => intro us h _ u hu; rw [ivl_nil.1 h] at hu; cases hu
  | cons a l ih =>
    intro us h h1 u hu
    obtain ⟨w, ws, rfl, h2, h3⟩ := ivl_cons.1 h
    simp only [List.all_cons, Bool.and_eq_true] at h1
    cases hu with
    | head => exact iv_one h2 h1.1
    | tail _ hu => exact ih h3 h1.2 u hu
end

/-! ## Blocks -/

def frK (fr : Nat × Nat) (n : Nat) : Prop := fr.1 = fr.2 ∨ n ≤ fr.1
theorem frK.not {fr : Nat × Nat} {n i : Nat} (h : frK fr n) (hi : i < n) : (decide (fr.1 ≤ i) && decide (i < fr.2)) = false := by
  rcases h with h | h
  · by_cases h1 : fr.1 ≤ i
    · have : ¬ i < fr.2 := by omega
      simp [this]
    · simp [h1]
  · have : ¬ fr.1 ≤ i := by omega
    simp [this]

inductive EVL (γ : Va) : List (Value × AV) → List MapEntry → Prop
  | nil : EVL γ [] []
  | cons {k : Value} {a : AV} {es : List (Value × AV)} {e : MapEntry} {l : List MapEntry} : e.key = k → IV γ a e.val → EVL γ es l → EVL γ ((k, a) :: es) (e :: l)
theorem EVL.mono {γ γ' : Va} (h : Le γ γ') {es : List (Value × AV)} {l : List MapEntry} (he : EVL γ es l) : EVL γ' es l := by
  induction he with
  | nil => exact .nil
  | cons h1 h2 _ ih => exact .cons h1 (h2.mono h) ih

def OV (γ : Va) (c : Nat) : AO → Obj → Prop
  | .cells l, ob => ∃ us e fr, IVL γ l us ∧ ob = .cells us.toArray e fr ∧ frK fr us.length
  | .rowu sz l, ob => ∃ us rest e fr, IVL γ l us ∧ ob = .cells (us ++ rest).toArray e fr ∧ (us ++ rest).length = c * sz ∧ frK fr (us ++ rest).length
  | .map es, ob => ∃ arr clock, ob = .map arr clock ∧ EVL γ es arr.toList
theorem OV.mono {γ γ' : Va} (h : Le γ γ') {c : Nat} {o : AO} {ob : Obj} (ho : OV γ c o ob) : OV γ' c o ob := by
  cases o with
  | cells l => obtain ⟨us, e, fr, h1, h2⟩ := ho; exact ⟨us, e, fr, h1.mono h, h2⟩
  | rowu sz l => obtain ⟨us, rest, e, fr, h1, h2⟩ := ho; exact ⟨us, rest, e, fr, h1.mono h, h2⟩
  | map es => obtain ⟨arr, clock, h1, h2⟩ := ho; exact ⟨arr, clock, h1, h2.mono h⟩

structure HInv (γ : Va) (h : Hp) (l : List (Nat × Obj)) : Prop where
  obj : ∀ b o, tget h.tr b = some o → ∃ g c ob, γ b = some (g, c) ∧ (g, ob) ∈ l ∧ OV γ c o ob
  inj : ∀ b b' o o' g c c', tget h.tr b = some o → tget h.tr b' = some o' → γ b = some (g, c) → γ b' = some (g, c') → b = b'
  fresh : ∀ b, h.next ≤ b → γ b = none
def hO (γ : Va) (h : Hp) : Own := ⟨fun _ l => HInv γ h l, fun _ _ _ _ h => h⟩

/-- What becomes of a valuation: what was told stays, and what was not told below n stays so. -/
structure Ext (n : Nat) (γ γ' : Va) : Prop where
  le : Le γ γ'
  same : ∀ b, b < n → γ' b = γ b
theorem Ext.refl (n : Nat) (γ : Va) : Ext n γ γ := ⟨Le.refl _, fun _ _ => rfl⟩
theorem Ext.trans {n n' : Nat} {γ γ' γ'' : Va} (h : Ext n γ γ') (h' : Ext n' γ' γ'') (hn : n ≤ n') : Ext n γ γ'' :=
  ⟨h.le.trans h'.le, fun b hb => (h'.same b (by omega)).trans (h.same b hb)⟩
theorem Ext.less {n m : Nat} {γ γ' : Va} (h : Ext n γ γ') (hm : m ≤ n) : Ext m γ γ' := ⟨h.le, fun b hb => h.same b (by omega)⟩

def upV (γ : Va) (n : Nat) (p : Nat × Nat) : Va := fun b => if b = n then some p else γ b
theorem ext_up {γ : Va} {n m : Nat} {p : Nat × Nat} (h : γ n = none) (hm : m ≤ n) : Ext m γ (upV γ n p) :=
  ⟨fun b q hb => by
    unfold upV
    by_cases he : b = n
    · subst he; rw [h] at hb; cases hb
    · rw [if_neg he]; exact hb, fun b hb => by unfold upV; rw [if_neg (by omega)]⟩

section
variable {K : List KP} {M : List Own} {w0 w w' : World} {γ : Va} {h : Hp}

/-- A block that the runner knows is there. -/
theorem st_get (hs : St ⟨K, hO γ h :: M⟩ w0 w) {b : Nat} {o : AO} (hb : tget h.tr b = some o) : ∃ g c ob, γ b = some (g, c) ∧ w.heap[g]? = some ob ∧ OV γ c o ob := by
  obtain ⟨H, l1, l2, hk, ho, hR, ha, h0⟩ := hs.focus Sel.head
  obtain ⟨g, c, ob, h1, h2, h3⟩ := (show HInv γ h l1 from ho).obj b o hb
  exact ⟨g, c, ob, h1, (ha.2.1 _ (List.mem_append_left _ h2)).1, h3⟩
theorem st_fresh (hs : St ⟨K, hO γ h :: M⟩ w0 w) {b : Nat} (hb : h.next ≤ b) : γ b = none := by
  obtain ⟨H, l1, l2, hk, ho, hR, ha, h0⟩ := hs.focus Sel.head
  exact (show HInv γ h l1 from ho).fresh b hb
theorem st_lt (hs : St ⟨K, hO γ h :: M⟩ w0 w) {b : Nat} {o : AO} (hb : tget h.tr b = some o) : b < h.next := by
  rcases Nat.lt_or_ge b h.next with h' | h'
  · exact h'
  · obtain ⟨g, c, ob, h1, _⟩ := st_get hs hb
    rw [st_fresh hs h'] at h1; cases h1

theorem upd_list {l : List (Nat × Obj)} {g : Nat} {ob' : Obj} (f : Nat × Obj → Nat × Obj) (hf : f = fun x => if x.1 = g then (g, ob') else x) : (l.map f).map (·.1) = l.map (·.1) := by
  rw [List.map_map]
  refine List.map_congr_left fun x _ => ?_
  subst hf
  simp only [Function.comp]
  by_cases hx : x.1 = g
  · rw [if_pos hx]; exact hx.symm
  · rw [if_neg hx]

theorem agree_upd {H : Heap} {l : List (Nat × Obj)} {g : Nat} {ob ob' : Obj} (ha : Agree H l w) (hg : (g, ob) ∈ l) (hsame : ∀ b, b ≠ g → w'.heap[b]? = w.heap[b]?) (hnew : w'.heap[g]? = some ob') :
    Agree H (l.map fun x => if x.1 = g then (g, ob') else x) w' := by
  obtain ⟨h1, h2, h3⟩ := ha
  have hH : H g = none := (h2 _ hg).2
  refine ⟨fun b o hb => ?_, fun x hx => ?_, by rw [upd_list _ rfl]; exact h3⟩
  · have : b ≠ g := by rintro rfl; rw [hH] at hb; cases hb
    rw [hsame b this]; exact h1 b o hb
  · obtain ⟨y, hy, rfl⟩ := List.mem_map.1 hx
    by_cases hyg : y.1 = g
    · rw [if_pos hyg]; exact ⟨hnew, hH⟩
    · rw [if_neg hyg]; rw [hsame _ hyg]; exact h2 y hy

/-- A block turns: all else stays. -/
theorem st_upd (hs : St ⟨K, hO γ h :: M⟩ w0 w) {b : Nat} {o o' : AO} {g c : Nat} {ob' : Obj} (hb : tget h.tr b = some o) (hg : γ b = some (g, c)) (ho' : OV γ c o' ob')
    (hsame : ∀ k, k ≠ g → w'.heap[k]? = w.heap[k]?) (hnew : w'.heap[g]? = some ob') (h0' : Same0 w w') : St ⟨K, hO γ ⟨tset h.tr b (some o'), h.next⟩ :: M⟩ w0 w' := by
  obtain ⟨H, l1, l2, hk, ho, hR, ha, h0⟩ := hs.focus Sel.head
  have hi : HInv γ h l1 := ho
  obtain ⟨g1, c1, ob, e1, hm, _⟩ := hi.obj b o hb
  have : g1 = g := by rw [hg] at e1; injection e1 with e1; injection e1 with e1 _; exact e1.symm
  subst this
  have hnd := ha.2.2
  rw [List.map_append] at hnd
  have hn2 : ∀ x ∈ l2, x.1 ≠ g1 := fun x hx he => (List.nodup_append.1 hnd).2.2 _ (List.mem_map_of_mem hm) _ (List.mem_map_of_mem hx) (by simpa using he.symm)
  have ha' := agree_upd ha (List.mem_append_left _ hm) hsame hnew
  rw [List.map_append] at ha'
  have hl2 : l2.map (fun x => if x.1 = g1 then (g1, ob') else x) = l2 := by
    have : l2.map (fun x => if x.1 = g1 then (g1, ob') else x) = l2.map id := List.map_congr_left fun x hx => by rw [if_neg (hn2 x hx)]; rfl
    rw [this, List.map_id]
  rw [hl2] at ha'
  refine ⟨H, _, hk, .cons (o := hO γ ⟨tset h.tr b (some o'), h.next⟩) (l1 := l1.map fun x => if x.1 = g1 then (g1, ob') else x) ⟨fun b2 o2 hb2 => ?_, fun b2 b3 o2 o3 g2 c2 c3 h2 h3 e2 e3 => ?_, hi.fresh⟩ hR, ha', h0.trans h0'⟩
  · rw [tget_tset] at hb2
    by_cases hbb : b2 = b
    · subst hbb
      rw [if_pos rfl] at hb2
      injection hb2 with hb2; subst hb2
      exact ⟨g1, c, ob', hg, List.mem_map.2 ⟨_, hm, by simp⟩, ho'⟩
    · rw [if_neg hbb] at hb2
      obtain ⟨g2, c2, ob2, f1, f2, f3⟩ := hi.obj b2 o2 hb2
      refine ⟨g2, c2, ob2, f1, List.mem_map.2 ⟨_, f2, ?_⟩, f3⟩
      have : g2 ≠ g1 := fun he => hbb (hi.inj b2 b o2 o g1 c2 c hb2 hb (he ▸ f1) hg)
      simp [this]
  · rw [tget_tset] at h2 h3
    have g2' : ∃ o, tget h.tr b2 = some o := by
      by_cases hx : b2 = b
      · exact ⟨o, hx ▸ hb⟩
      · rw [if_neg hx] at h2; exact ⟨_, h2⟩
    have g3' : ∃ o, tget h.tr b3 = some o := by
      by_cases hx : b3 = b
      · exact ⟨o, hx ▸ hb⟩
      · rw [if_neg hx] at h3; exact ⟨_, h3⟩
    obtain ⟨_, g2'⟩ := g2'
    obtain ⟨_, g3'⟩ := g3'
    exact hi.inj b2 b3 _ _ g2 c2 c3 g2' g3' e2 e3

theorem HInv.more {l : List (Nat × Obj)} {n : Nat} (hi : HInv γ h l) (hn : h.next ≤ n) : HInv γ ⟨h.tr, n⟩ l := ⟨hi.obj, hi.inj, fun b hb => hi.fresh b (Nat.le_trans hn hb)⟩
theorem st_more (hs : St ⟨K, hO γ h :: M⟩ w0 w) {n : Nat} (hn : h.next ≤ n) : St ⟨K, hO γ ⟨h.tr, n⟩ :: M⟩ w0 w := by
  obtain ⟨H, l1, l2, hk, ho, hR, ha, h0⟩ := hs.focus Sel.head
  exact ⟨H, _, hk, .cons (o := hO γ ⟨h.tr, n⟩) (HInv.more ho hn) hR, ha, h0⟩
theorem st_drop (hs : St ⟨K, hO γ h :: M⟩ w0 w) (b : Nat) : St ⟨K, hO γ ⟨tset h.tr b none, h.next⟩ :: M⟩ w0 w := by
  obtain ⟨H, l1, l2, hk, ho, hR, ha, h0⟩ := hs.focus Sel.head
  have hi : HInv γ h l1 := ho
  have key : ∀ b2 o2, tget (tset h.tr b none) b2 = some o2 → tget h.tr b2 = some o2 := fun b2 o2 h2 => by
    rw [tget_tset] at h2
    by_cases hx : b2 = b
    · rw [if_pos hx] at h2; cases h2
    · rwa [if_neg hx] at h2
  exact ⟨H, _, hk, .cons (o := hO γ ⟨tset h.tr b none, h.next⟩) ⟨fun b2 o2 h2 => hi.obj b2 o2 (key _ _ h2), fun b2 b3 o2 o3 g2 c2 c3 h2 h3 => hi.inj b2 b3 o2 o3 g2 c2 c3 (key _ _ h2) (key _ _ h3), hi.fresh⟩ hR, ha, h0⟩

/-- A new block, under a number n that was kept. -/
theorem st_newAt (hs : St ⟨K, hO γ h :: M⟩ w0 w) {n : Nat} (hn : γ n = none) (hlt : n < h.next) (o : AO) (c : Nat) (ob : Obj) (hov : OV (upV γ n (w.heap.size, c)) c o ob) (hw : w'.heap = w.heap.push ob) (h0' : Same0 w w') :
    St ⟨K, hO (upV γ n (w.heap.size, c)) ⟨tset h.tr n (some o), h.next⟩ :: M⟩ w0 w' := by
  obtain ⟨H, l1, l2, hk, ho, hR, ha, h0⟩ := hs.focus Sel.head
  have hi : HInv γ h l1 := ho
  have hle : Le γ (upV γ n (w.heap.size, c)) := (ext_up (m := 0) hn (Nat.zero_le _)).le
  have hne : ∀ b o, tget h.tr b = some o → b ≠ n := fun b o hb he => by
    obtain ⟨g, c, ob, h1, _⟩ := hi.obj b o hb
    rw [he, hn] at h1; cases h1
  have hsz : ∀ b o, tget h.tr b = some o → ∀ g c, γ b = some (g, c) → g < w.heap.size := fun b o hb g c hg => by
    obtain ⟨g1, c1, ob1, h1, h2, _⟩ := hi.obj b o hb
    rw [hg] at h1; injection h1 with h1; injection h1 with h1 _; subst h1
    exact ha.lt.2 _ (List.mem_append_left _ h2)
  have ha' : Agree H (((w.heap.size, ob) :: l1) ++ l2) w' := ha.alloc hw
  refine ⟨H, _, hk, .cons (o := hO (upV γ n (w.heap.size, c)) ⟨tset h.tr n (some o), h.next⟩) (l1 := (w.heap.size, ob) :: l1) ⟨fun b2 o2 hb2 => ?_, fun b2 b3 o2 o3 g2 c2 c3 h2 h3 e2 e3 => ?_, fun b hb => ?_⟩ hR, ha', h0.trans h0'⟩
  · rw [tget_tset] at hb2
    by_cases hbb : b2 = n
    · subst hbb
      rw [if_pos rfl] at hb2
      injection hb2 with hb2; subst hb2
      exact ⟨w.heap.size, c, ob, by simp [upV], .head _, hov⟩
    · rw [if_neg hbb] at hb2
      obtain ⟨g2, c2, ob2, f1, f2, f3⟩ := hi.obj b2 o2 hb2
      exact ⟨g2, c2, ob2, hle _ _ f1, .tail _ f2, f3.mono hle⟩
  · rw [tget_tset] at h2 h3
    by_cases hx : b2 = n
    · by_cases hy : b3 = n
      · rw [hx, hy]
      · exfalso
        rw [if_neg hy] at h3
        rw [hx] at e2
        simp only [upV, if_pos] at e2
        injection e2 with e2; injection e2 with e2 _
        simp only [upV, if_neg hy] at e3
        have := hsz _ _ h3 _ _ e3
        omega
    · rw [if_neg hx] at h2
      simp only [upV, if_neg hx] at e2
      by_cases hy : b3 = n
      · exfalso
        rw [hy] at e3
        simp only [upV, if_pos] at e3
        injection e3 with e3; injection e3 with e3 _
        have := hsz _ _ h2 _ _ e2
        omega
      · rw [if_neg hy] at h3
        simp only [upV, if_neg hy] at e3
        exact hi.inj b2 b3 _ _ g2 c2 c3 h2 h3 e2 e3
  · have hb' : h.next ≤ b := hb
    have : b ≠ n := by omega
    simp only [upV, if_neg this]
    exact hi.fresh b hb'

/-- A new block. -/
theorem st_new (hs : St ⟨K, hO γ h :: M⟩ w0 w) (o : AO) (c : Nat) (ob : Obj) (hov : OV (upV γ h.next (w.heap.size, c)) c o ob) (hw : w'.heap = w.heap.push ob) (h0' : Same0 w w') :
    St ⟨K, hO (upV γ h.next (w.heap.size, c)) (newB h o) :: M⟩ w0 w' :=
  st_newAt (h := ⟨h.tr, h.next + 1⟩) (st_more hs (Nat.le_succ _)) (st_fresh hs (Nat.le_refl _)) (Nat.lt_succ_self _) o c ob hov hw h0'

/-- A block that turns goes under a new number from here on. -/
theorem st_move (hs : St ⟨K, hO γ h :: M⟩ w0 w) {b : Nat} {o o' : AO} {g c c' : Nat} {ob' : Obj} (hb : tget h.tr b = some o) (hg : γ b = some (g, c)) (ho' : OV (upV γ h.next (g, c')) c' o' ob')
    (hsame : ∀ k, k ≠ g → w'.heap[k]? = w.heap[k]?) (hnew : w'.heap[g]? = some ob') (h0' : Same0 w w') : St ⟨K, hO (upV γ h.next (g, c')) (newB ⟨tset h.tr b none, h.next⟩ o') :: M⟩ w0 w' := by
  obtain ⟨H, l1, l2, hk, ho, hR, ha, h0⟩ := hs.focus Sel.head
  have hi : HInv γ h l1 := ho
  have hfr : γ h.next = none := hi.fresh _ (Nat.le_refl _)
  have hle : Le γ (upV γ h.next (g, c')) := (ext_up (m := 0) hfr (Nat.zero_le _)).le
  obtain ⟨g1, c1, ob, e1, hm, _⟩ := hi.obj b o hb
  have : g1 = g := by rw [hg] at e1; injection e1 with e1; injection e1 with e1 _; exact e1.symm
  subst this
  have hnd := ha.2.2
  rw [List.map_append] at hnd
  have hn2 : ∀ x ∈ l2, x.1 ≠ g1 := fun x hx he => (List.nodup_append.1 hnd).2.2 _ (List.mem_map_of_mem hm) _ (List.mem_map_of_mem hx) (by simpa using he.symm)
  have ha' := agree_upd ha (List.mem_append_left _ hm) hsame hnew
  rw [List.map_append] at ha'
  have hl2 : l2.map (fun x => if x.1 = g1 then (g1, ob') else x) = l2 := by
    have : l2.map (fun x => if x.1 = g1 then (g1, ob') else x) = l2.map id := List.map_congr_left fun x hx => by rw [if_neg (hn2 x hx)]; rfl
    rw [this, List.map_id]
  rw [hl2] at ha'
  have hsplit : ∀ b2 o2, tget (newB ⟨tset h.tr b none, h.next⟩ o').tr b2 = some o2 → (b2 = h.next ∧ o2 = o') ∨ (b2 ≠ h.next ∧ b2 ≠ b ∧ tget h.tr b2 = some o2) := fun b2 o2 h2 => by
    have h2 : tget (tset (tset h.tr b none) h.next (some o')) b2 = some o2 := h2
    rw [tget_tset] at h2
    by_cases hx : b2 = h.next
    · rw [if_pos hx] at h2; injection h2 with h2; exact .inl ⟨hx, h2.symm⟩
    · rw [if_neg hx, tget_tset] at h2
      by_cases hy : b2 = b
      · rw [if_pos hy] at h2; cases h2
      · rw [if_neg hy] at h2; exact .inr ⟨hx, hy, h2⟩
  refine ⟨H, _, hk, .cons (o := hO (upV γ h.next (g1, c')) (newB ⟨tset h.tr b none, h.next⟩ o')) (l1 := l1.map fun x => if x.1 = g1 then (g1, ob') else x) ⟨fun b2 o2 hb2 => ?_, fun b2 b3 o2 o3 g2 c2 c3 h2 h3 e2 e3 => ?_, fun k hk => ?_⟩ hR, ha', h0.trans h0'⟩
  · rcases hsplit b2 o2 hb2 with ⟨rfl, rfl⟩ | ⟨n1, n2, hb2⟩
    · exact ⟨g1, c', ob', by simp [upV], List.mem_map.2 ⟨_, hm, by simp⟩, ho'⟩
    · obtain ⟨g2, c2, ob2, f1, f2, f3⟩ := hi.obj b2 o2 hb2
      refine ⟨g2, c2, ob2, hle _ _ f1, List.mem_map.2 ⟨_, f2, ?_⟩, f3.mono hle⟩
      have : g2 ≠ g1 := fun he => n2 (hi.inj b2 b o2 o g1 c2 c hb2 hb (he ▸ f1) hg)
      simp [this]
  · rcases hsplit b2 o2 h2 with ⟨rfl, rfl⟩ | ⟨n1, n2, q2⟩
    · rcases hsplit b3 o3 h3 with ⟨rfl, rfl⟩ | ⟨m1, m2, h3⟩
      · rfl
      · exfalso
        simp only [upV, if_pos] at e2
        injection e2 with e2; injection e2 with e2 _
        simp only [upV, if_neg m1] at e3
        exact m2 (hi.inj b3 b o3 o g1 c3 c h3 hb (e2 ▸ e3) hg)
    · simp only [upV, if_neg n1] at e2
      rcases hsplit b3 o3 h3 with ⟨rfl, rfl⟩ | ⟨m1, m2, h3⟩
      · exfalso
        simp only [upV, if_pos] at e3
        injection e3 with e3; injection e3 with e3 _
        exact n2 (hi.inj b2 b o2 o g1 c2 c q2 hb (e3 ▸ e2) hg)
      · simp only [upV, if_neg m1] at e3
        exact hi.inj b2 b3 _ _ g2 c2 c3 q2 h3 e2 e3
  · have hk' : h.next + 1 ≤ k := hk
    have : k ≠ h.next := by omega
    simp only [upV, if_neg this]
    exact hi.fresh k (by omega)
end
end Go.EV
