/-
  Each step of the runner is the model's: building, cutting, what looks at memory.
-/
import Derived.Test.YthokbcjofkgopaaGreatDoorEvStp1
namespace Go.EV
open Go Go.HL

theorem setL_eq : ∀ (vs cs : List Value) (j : Nat), j + vs.length ≤ cs.length → setL cs j vs = cs.take j ++ (vs ++ cs.drop (j + vs.length))
  | [], cs, j, _ => by simp [setL]
  | v :: vs, cs, j, hl => by
    simp only [List.length_cons] at hl
    rw [setL, setL_eq vs _ (j + 1) (by simp; omega)]
    have hlt : j < cs.length := by omega
    have e0 : cs.set j v = cs.take j ++ v :: cs.drop (j + 1) := by rw [List.set_eq_take_append_cons_drop, if_pos hlt]
    have e1 : (cs.take j).length = j := by rw [List.length_take]; omega
    have e2 : (cs.set j v).take (j + 1) = cs.take j ++ [v] := by
      rw [e0, List.take_append, e1, List.take_of_length_le (by rw [e1]; omega)]
      simp
    have e3 : (cs.set j v).drop (j + 1 + vs.length) = cs.drop (j + (vs.length + 1)) := by
      rw [e0, List.drop_append, e1, List.drop_of_length_le (by rw [e1]; omega)]
      have : j + 1 + vs.length - j = vs.length + 1 := by omega
      rw [this]
      simp only [List.drop_succ_cons, List.nil_append, List.drop_drop]
      congr 1; omega
    rw [e2, e3]
    simp
theorem fold_setL' (off : Nat) : ∀ (vs cs : List Value) (k : Nat), (vs.zipIdx k).foldl (fun (cs : Array Value) (x : Value × Nat) => cs.setIfInBounds (off + x.2) x.1) cs.toArray = (setL cs (off + k) vs).toArray
  | [], _, _ => rfl
  | v :: vs, cs, k => by
    rw [List.zipIdx_cons, List.foldl_cons]
    simp only [List.setIfInBounds_toArray]
    rw [fold_setL' off vs _ (k + 1)]
    rfl

/-- The parts of a thing that is built, as the runner has them and as the model has them. -/
def PVL (γ : Va) : List (Nat × AV) → List (Nat × Value) → Prop
  | [], [] => True
  | (i, x) :: r, (j, v) :: r' => i = j ∧ IV γ x v ∧ PVL γ r r'
  | _, _ => False

theorem fill_ok {γ : Va} {place : Nat → Option (Nat × Nat)} {place' : Nat → Option (Nat × Nat)} (hp : ∀ i q, place i = some q → place' i = some q) : ∀ {ps : List (Nat × AV)} {pv : List (Nat × Value)} {cs : List AV} {us : List Value} {out : List AV},
    PVL γ ps pv → IVL γ cs us → fill place cs ps = some out → ∃ vs, Instr.fill place' us.toArray pv = some vs.toArray ∧ IVL γ out vs
  | [], [], cs, us, out, _, hc, hf => by simp only [fill] at hf; injection hf with hf; subst hf; exact ⟨us, rfl, hc⟩
  | [], _ :: _, _, _, _, h, _, _ => h.elim
  | _ :: _, [], _, _, _, h, _, _ => h.elim
  | (i, x) :: r, (j, v) :: r', cs, us, out, hpv, hc, hf => by
    obtain ⟨rfl, hv, hr⟩ := hpv
    simp only [fill] at hf
    cases hpi : place i with
    | none => rw [hpi] at hf; cases hf
    | some q =>
      obtain ⟨off, size⟩ := q
      rw [hpi] at hf
      simp only at hf
      cases hb : Nat.beq (cellsA x).length size && Nat.ble (Nat.add off size) cs.length with
      | false => rw [hb] at hf; cases hf
      | true =>
        rw [hb] at hf
        simp only at hf
        rw [Bool.and_eq_true] at hb
        have h1 : (cellsA x).length = size := Nat.eq_of_beq_eq_true hb.1
        have h2 : off + size ≤ cs.length := Nat.le_of_ble_eq_true hb.2
        have hcx := iv_cellsA hv
        have hl := hcx.len
        have hlc := hc.len
        have hsz : v.cells.size = size := by rw [← Array.length_toList]; omega
        have hcond : (decide (v.cells.size ≠ size) || decide (off + v.cells.size > us.toArray.size)) = false := by
          simp only [List.size_toArray, Bool.or_eq_false_iff, decide_eq_false_iff_not]; omega
        have hfold : v.cells.zipIdx.foldl (fun cs x => cs.setIfInBounds (off + x.2) x.1) us.toArray = (setL us off v.cells.toList).toArray := by
          have := fold_setL' off v.cells.toList us 0
          rw [Nat.add_zero] at this
          rw [← this, ← Array.foldl_toList]
          congr 1
          simp
        have hw : IVL γ (wrL cs off (cellsA x)) (setL us off v.cells.toList) := by
          rw [setL_eq _ _ _ (by omega)]
          unfold wrL
          refine IVL.append (IVL.append ?_ hcx) (hc.take off)
          have := hc.drop (off + v.cells.toList.length)
          rw [hl] at this ⊢
          exact this
        obtain ⟨vs, e1, e2⟩ := fill_ok hp hr hw hf
        refine ⟨vs, ?_, e2⟩
        rw [← hfold] at e1
        unfold Instr.fill
        simp only [hp _ _ hpi, hcond, Bool.false_eq_true, if_false]
        exact e1

theorem run_places' {P : Program} {w : World} : ∀ (l : List Field), (∀ f ∈ l, ∃ i, P.info? f.type = some i) →
    ∃ pl : List (Nat × Nat), (l.mapM (m := Sem) (fun (f : Field) => Prod.mk f.offset <$> sizeOf f.type)).run P w = .ok pl w ∧ ∀ (j : Nat) f, l[j]? = some f → ∀ i, P.info? f.type = some i → pl[j]? = some (f.offset, i.size) := by
  intro l
  induction l with
  | nil => intro _; exact ⟨[], by simp, fun j f hf => by simp at hf⟩
  | cons f l ih =>
    intro h
    obtain ⟨i, hi⟩ := h f (.head _)
    obtain ⟨pl, h1, h2⟩ := ih fun g hg => h g (.tail _ hg)
    refine ⟨(f.offset, i.size) :: pl, ?_, fun j g hg i' hi' => ?_⟩
    · have hsz : (sizeOf f.type).run P w = .ok i.size w := by simp [sizeOf, typeInfo, hi]
      rw [List.mapM_cons]
      simp [Sem.run_bind, hsz, Result.andThen, h1]
    · cases j with
      | zero => simp at hg; subst hg; rw [hi] at hi'; injection hi' with hi'; subst hi'; rfl
      | succ j => simpa using h2 j g (by simpa using hg) i' hi'

section
variable {X : Sx} {GK K : List KP} {M : List Own} {γ : Va} {ρ : Rho} {h : Hp} {w0 w : World} {a : Act} {o : Oper}

theorem zip_pv (hE : EnvR γ ρ a) : ∀ {parts : List (Nat × Operand)} {vs : List AV}, evL ρ (parts.map (·.2)) = some vs → PVL γ ((parts.map (·.1)).zip vs) (parts.map fun (x : Nat × Operand) => (x.1, a.eval x.2))
  | [], vs, hv => by simp only [List.map_nil, evL] at hv; injection hv with hv; subst hv; trivial
  | (i, x) :: r, vs, hv => by
    simp only [List.map_cons, evL] at hv
    cases hx : evO ρ x with
    | none => rw [hx] at hv; cases hv
    | some v =>
      rw [hx] at hv
      simp only at hv
      cases hr : evL ρ (r.map (·.2)) with
      | none => rw [hr] at hv; cases hv
      | some l =>
        rw [hr] at hv
        injection hv with hv; subst hv
        exact ⟨rfl, ev_ok hE hx, zip_pv hE hr⟩

theorem oBuild_ok (hX : XOk X GK) (hE : EnvR γ ρ a) {t : TypeId} {ps : Array (Nat × Operand)} (ho : o.op = .build t ps) : Good X.P K M γ h w0 a w o (oBuild X ρ o t ps.toList) := by
  unfold oBuild
  cases hc : allConc ρ o.op with
  | true => exact gen_ok hE (by rw [ho]; trivial)
  | false =>
    simp only
    cases ht : X.TT t with
    | none => trivial
    | some ti =>
      simp only
      have hok := hX.tt t ti ht
      cases hv : evL ρ (ps.toList.map (·.2)) with
      | none => trivial
      | some vs =>
        simp only
        split
        · rename_i fs hfs
          cases hf : fill (placeS X t) (cellsA (.v ti.zero)) ((ps.toList.map (·.1)).zip vs) with
          | none => trivial
          | some cs =>
            have hu := hok.und
            rw [hfs] at hu
            obtain ⟨pl, hpl, hpl2⟩ := run_places' (P := X.P) (w := w) fs.toList (hok.fld fs hfs)
            have hplace : ∀ i q, placeS X t i = some q → (pl.toArray[·]?) i = some q := by
              intro i q hq
              unfold placeS at hq
              cases hfo : fieldOf X t i with
              | none => rw [hfo] at hq; cases hq
              | some p =>
                obtain ⟨f, fi⟩ := p
                rw [hfo] at hq
                injection hq with hq; subst hq
                obtain ⟨fs', hu', hfi, hti⟩ := fieldOf_ok hX hfo
                rw [hu] at hu'
                injection hu' with hu'; injection hu' with hu'; subst hu'
                obtain ⟨inf, h1, h2, _⟩ := hti.info
                have := hpl2 i f (by simpa using hfi) inf h1
                rw [h2] at this
                simpa using this
            obtain ⟨us, hu1, hu2⟩ := fill_ok hplace (zip_pv hE hv) (iv_cellsA (iv_v.2 rfl) : IVL γ (cellsA (.v ti.zero)) ti.zero.cells.toList) hf
            refine ⟨.agg us.toArray, ?_, iv_mkAgg hu2⟩
            have hmap : (fs.mapM (m := Sem) fun f => do pure (f.offset, ← sizeOf f.type)).run X.P w = .ok pl.toArray w := by
              rw [Array.mapM_eq_mapM_toList]
              simp [hpl, Result.andThen]
            have hparts : (ps.map fun (x : Nat × Operand) => (x.1, a.eval x.2)).toList = ps.toList.map fun (x : Nat × Operand) => (x.1, a.eval x.2) := by rw [Array.toList_map]
            have hu1' : Instr.fill (pl.toArray[·]?) ti.zero.cells (ps.toList.map fun (x : Nat × Operand) => (x.1, a.eval x.2)) = some us.toArray := by simpa using hu1
            simp only [execOp, ho, Instr.build, Sem.run_bind, run_zero' hok, Result.andThen, run_underlying hu, hmap, hparts, hu1']
            simp
        · trivial

theorem oMakeFunc_ok (hE : EnvR γ ρ a) {fn : Fn} {f c : Array Operand} (ho : o.op = .makeFunc fn f c) : Good X.P K M γ h w0 a w o (oMakeFunc ρ fn f.toList c.toList) := by
  unfold oMakeFunc
  split
  · rename_i g
    cases h1 : evL ρ f.toList with
    | none => trivial
    | some l1 =>
      cases h2 : evL ρ c.toList with
      | none => trivial
      | some l2 =>
        have e1 := evL_ok hE h1
        have e2 := evL_ok hE h2
        refine ⟨.func (.func g) (f.toList.map a.eval).toArray (c.toList.map a.eval).toArray, ?_, by simp only [IV]; exact ⟨_, _, e1, e2, rfl⟩⟩
        have e3 : ∀ q : Array Operand, q.map a.eval = (q.toList.map a.eval).toArray := fun q => by apply Array.ext'; simp
        simp [execOp, ho, Instr.makeFunc, e3]
  · trivial
theorem oMakeIface_ok (hX : XOk X GK) (hE : EnvR γ ρ a) {t : TypeId} {x : Operand} (ho : o.op = .makeInterface t x) : Good X.P K M γ h w0 a w o (oMakeIface X ρ o t x) := by
  unfold oMakeIface
  split
  · exact gen_ok hE (by rw [ho]; trivial)
  · rename_i v hv hx
    cases ht : X.TT t with
    | none => trivial
    | some ti =>
      simp only
      have hu := (hX.tt t ti ht).und
      split
      · trivial
      · rename_i hn
        refine ⟨.iface t (a.eval x), ?_, by simp only [IV]; exact ⟨_, ev_ok hE hx, rfl⟩⟩
        simp only [execOp, ho, Instr.makeInterface, Sem.run_bind, run_underlying hu, Result.andThen]
        cases hti : ti.u with
        | interface ms => exact absurd hti (hn ms)
        | _ => rfl
  · trivial

theorem aggOr_ok {ti : TI} {t : TypeId} (_ht : TOk X.P t ti) {cs : List AV} {us : List Value} {v : AV} (hv : IVL γ cs us) (hl : us.length = ti.sz) (ha : aggOr ti.agg cs = some v) : (ti.agg = true ∧ IV γ v (.agg us.toArray)) ∨ (ti.agg = false ∧ ∃ u, us = [u] ∧ IV γ v u) := by
  unfold aggOr at ha
  cases hag : ti.agg with
  | true => rw [hag] at ha; injection ha with ha; subst ha; exact .inl ⟨rfl, iv_mkAgg hv⟩
  | false =>
    rw [hag] at ha
    simp only at ha
    split at ha
    · rename_i c
      injection ha with ha; subst ha
      obtain ⟨u, r, rfl, h1, h2⟩ := ivl_cons.1 hv
      rw [ivl_nil.1 h2]
      exact .inr ⟨rfl, u, rfl, h1⟩
    · cases ha

theorem oField_ok (hX : XOk X GK) (hE : EnvR γ ρ a) {t : TypeId} {x : Operand} {i : Nat} (ho : o.op = .field t x i) : Good X.P K M γ h w0 a w o (oField X ρ o t x i) := by
  unfold oField
  split
  · rename_i l hx
    split
    · rename_i f fi hf
      obtain ⟨fs, hu, hfs, ht⟩ := fieldOf_ok hX hf
      split
      · rename_i cs hcs
        refine pO_ok fun v hv => ?_
        have h1 := ev_ok hE hx
        simp only [IV] at h1
        obtain ⟨us, h2, he⟩ := h1
        obtain ⟨hle, rfl⟩ := sub_eq hcs
        have hl := h2.len
        have hsub := (h2.drop f.offset).take fi.sz
        have hlen : ((us.drop f.offset).take fi.sz).length = fi.sz := by simp; omega
        have hfield : ∀ u, (part f.type us.toArray f.offset).run X.P w = .ok u w → (execOp a.eval o).run X.P w = .ok (.value u) w := fun u hu' => by
          simp [execOp, ho, he, Instr.field, run_underlying hu, hfs, asAgg, hu']
        rcases aggOr_ok ht hsub hlen hv with ⟨hag, h3⟩ | ⟨hag, u, hu1, h3⟩
        · refine ⟨_, hfield _ ?_, h3⟩
          simp only [part, Sem.run_bind, run_isAgg' ht, hag, Result.andThen, if_true, run_sizeOf' ht]
          simp [List.extract_toArray]
        · refine ⟨u, hfield _ ?_, h3⟩
          have h1' : fi.sz = 1 := by have := congrArg List.length hu1; simp at this; omega
          have hget : us[f.offset]? = some u := by
            have := congrArg (fun l => l[0]?) hu1
            rw [List.getElem?_take_of_lt (by omega), List.getElem?_drop] at this
            simpa using this
          simp [part, Sem.run_bind, run_isAgg' ht, hag, Result.andThen, hget]
      · trivial
    · trivial
  · exact gen_ok hE (by rw [ho]; trivial)
theorem oExtract_ok (hE : EnvR γ ρ a) {x : Operand} {i : Nat} (ho : o.op = .extract x i) : Good X.P K M γ h w0 a w o (oExtract X ρ o x i) := by
  unfold oExtract
  split
  · rename_i l hx
    refine pO_ok fun v hv => ?_
    have h1 := ev_ok hE hx
    simp only [IV] at h1
    obtain ⟨us, h2, he⟩ := h1
    obtain ⟨u, hu, hvu⟩ := h2.get i hv
    exact ⟨u, by simp [execOp, ho, he, Instr.extract, hu], hvu⟩
  · exact gen_ok hE (by rw [ho]; trivial)

theorem bnd_ok (hE : EnvR γ ρ a) {x : Option Operand} {d n : Nat} (hb : bnd ρ x d = some n) : (x = none ∧ n = d) ∨ ∃ y k, x = some y ∧ a.eval y = .int k (n : Int) := by
  unfold bnd at hb
  cases x with
  | none => injection hb with hb; exact .inl ⟨rfl, hb.symm⟩
  | some y =>
    simp only at hb
    split at hb
    · rename_i k m he
      injection hb with hb; subst hb
      exact .inr ⟨y, k, rfl, ev_v hE he⟩
    · cases hb

/-- The bounds of a slice, as the model finds them. -/
theorem bounds_ok (hE : EnvR γ ρ a) {lo hi : Option Operand} {b : Bool} {len cap l hh : Nat} (h1 : bnd ρ lo 0 = some l) (h2 : bnd ρ hi len = some hh) (hlh : l ≤ hh) (hhc : hh ≤ cap) :
    (Instr.sliceBounds b len cap (lo.map a.eval) (hi.map a.eval) none).run X.P w = .ok (l, hh, cap) w := by
  have e1 : ∀ (y : Operand) k, a.eval y = .int k (l : Int) → ∀ c, (Instr.sliceBound (a.eval y) hh c).run X.P w = .ok l w := fun y k hk c => by
    have : (0 : Int) ≤ (l : Int) ∧ (l : Int) ≤ (hh : Int) := by omega
    simp [Instr.sliceBound, hk, asIntOf, hlh]
  have e2 : ∀ (y : Operand) k, a.eval y = .int k (hh : Int) → ∀ c, (Instr.sliceBound (a.eval y) cap c).run X.P w = .ok hh w := fun y k hk c => by
    simp [Instr.sliceBound, hk, asIntOf, hhc]
  rcases bnd_ok hE h1 with ⟨rfl, rfl⟩ | ⟨y, k, rfl, hk⟩ <;> rcases bnd_ok hE h2 with ⟨rfl, rfl⟩ | ⟨z, k', rfl, hk'⟩
  · simp [Instr.sliceBounds]
  · simp [Instr.sliceBounds, e2 z k' hk']
  · simp [Instr.sliceBounds, e1 y k hk]
  · simp [Instr.sliceBounds, e1 y k hk, e2 z k' hk']
theorem bounds3_ok (hE : EnvR γ ρ a) {lo : Option Operand} {hi mx : Operand} {b : Bool} {len cap l hh m : Nat} (h1 : bnd ρ lo 0 = some l) (h2 : bnd ρ (some hi) 0 = some hh) (h3 : bnd ρ (some mx) 0 = some m) (hlh : l ≤ hh) (hhm : hh ≤ m) (hmc : m ≤ cap) :
    (Instr.sliceBounds b len cap (lo.map a.eval) ((some hi).map a.eval) ((some mx).map a.eval)).run X.P w = .ok (l, hh, m) w := by
  have e1 : ∀ (y : Operand) k, a.eval y = .int k (l : Int) → ∀ c, (Instr.sliceBound (a.eval y) hh c).run X.P w = .ok l w := fun y k hk c => by
    simp [Instr.sliceBound, hk, asIntOf, hlh]
  have e2 : ∀ (y : Operand) k, a.eval y = .int k (hh : Int) → ∀ c, (Instr.sliceBound (a.eval y) m c).run X.P w = .ok hh w := fun y k hk c => by
    simp [Instr.sliceBound, hk, asIntOf, hhm]
  have e3 : ∀ (y : Operand) k, a.eval y = .int k (m : Int) → ∀ c, (Instr.sliceBound (a.eval y) cap c).run X.P w = .ok m w := fun y k hk c => by
    simp [Instr.sliceBound, hk, asIntOf, hmc]
  rcases bnd_ok hE h2 with ⟨h, _⟩ | ⟨z, k', hz, hk'⟩
  · cases h
  injection hz with hz; subst hz
  rcases bnd_ok hE h3 with ⟨h, _⟩ | ⟨z', k'', hz', hk''⟩
  · cases h
  injection hz' with hz'; subst hz'
  rcases bnd_ok hE h1 with ⟨rfl, rfl⟩ | ⟨y, k, rfl, hk⟩
  · simp [Instr.sliceBounds, e2 _ k' hk', e3 _ k'' hk'']
  · simp [Instr.sliceBounds, e1 y k hk, e2 _ k' hk', e3 _ k'' hk'']

theorem bool3 {p q r : Bool} (h : (p && q && r) = true) : p = true ∧ q = true ∧ r = true := by
  simp only [Bool.and_eq_true] at h; exact ⟨h.1.1, h.1.2, h.2⟩

theorem oSlice_ok (hX : XOk X GK) (hE : EnvR γ ρ a) (hs : St ⟨K, hO γ h :: M⟩ w0 w) {t : TypeId} {x : Operand} {lo hi mx : Option Operand} (ho : o.op = .slice t x lo hi mx) : Good X.P K M γ h w0 a w o (oSlice X ρ h o t x lo hi mx) := by
  unfold oSlice
  split
  · exact gen_ok hE (by rw [ho]; trivial)
  · rename_i b e0 sz len cap hx
    split
    · rename_i ei hei
      obtain ⟨e, hu, ht⟩ := elemTI_ok hX hei
      have h1 := ev_ok hE hx
      simp only [IV] at h1
      obtain ⟨g, c, hg, he⟩ := h1
      split
      · rename_i hsz
        have hsz : ei.sz = sz := Nat.eq_of_beq_eq_true hsz
        split
        · rename_i l hl
          refine rO_ok fun v hv => ?_
          generalize hcv : capOf c e0 cap = cv at he
          -- what the op comes to, the bounds told
          have hrun : ∀ L H m, (Instr.sliceBounds true len cv (lo.map a.eval) (hi.map a.eval) (mx.map a.eval)).run X.P w = .ok (L, H, m) w →
              (execOp a.eval o).run X.P w = .ok (.value (.slice (if m = L then some ⟨g, e0 * sz, none⟩ else some ⟨g, (e0 + L) * sz, none⟩) (H - L) (m - L))) w := fun L H m hb => by
            simp only [execOp, ho, he, Instr.sliceAt, Sem.run_bind, run_underlying hu, Result.andThen, Instr.slice, hb, run_sizeOf' ht, hsz]
            by_cases hml : m = L
            · simp [hml]
            · simp [hml, addr_add', Nat.add_mul]
          have hcapV : ∀ L H m, L ≤ H → (v = .sl b (bif Nat.beq m L then e0 else Nat.add e0 L) sz (Nat.sub H L) (some (Nat.sub m L))) →
              (Instr.sliceBounds true len cv (lo.map a.eval) (hi.map a.eval) (mx.map a.eval)).run X.P w = .ok (L, H, m) w → Good X.P K M γ h w0 a w o (.rd v) := fun L H m _ hv' hb => by
            refine ⟨_, hrun L H m hb, ?_⟩
            subst hv'
            simp only [IV]
            refine ⟨g, c, hg, ?_⟩
            by_cases hml : m = L
            · subst hml; simp [cond, capOf]
            · have : Nat.beq m L = false := by
                cases hbb : Nat.beq m L with
                | false => rfl
                | true => exact absurd (Nat.eq_of_beq_eq_true hbb) hml
              rw [if_neg hml, this]; rfl
          unfold slSl at hv
          split at hv
          · -- no capacity told
            cases hbh : bnd ρ hi len with
            | none => rw [hbh] at hv; cases hv
            | some H =>
              rw [hbh] at hv
              simp only at hv
              cases cap with
              | some k =>
                simp only at hv
                unfold slCap at hv
                cases hb : Nat.ble l H && Nat.ble H k && Nat.ble k k with
                | false => rw [hb] at hv; cases hv
                | true =>
                  rw [hb] at hv
                  injection hv with hv
                  obtain ⟨q1, q2, _⟩ := bool3 hb
                  have : cv = k := hcv.symm
                  subst this
                  exact hcapV l H cv (Nat.le_of_ble_eq_true q1) hv.symm (bounds_ok (b := true) hE hl hbh (Nat.le_of_ble_eq_true q1) (Nat.le_of_ble_eq_true q2))
              | none =>
                simp only at hv
                unfold slRow at hv
                cases hb : Nat.ble l H && Nat.ble (Nat.mul (Nat.add e0 H) sz) (known h b sz) && Nat.blt 0 sz with
                | false => rw [hb] at hv; cases hv
                | true =>
                  rw [hb] at hv
                  simp only at hv
                  obtain ⟨q1, q2, q3⟩ := bool3 hb
                  have q1 := Nat.le_of_ble_eq_true q1
                  have q3 : 0 < sz := by simpa [Nat.blt_eq] using q3
                  have q2 : e0 + H ≤ c := known_le hs hg q3 (Nat.le_of_ble_eq_true q2)
                  have hcv' : cv = c - e0 := hcv.symm
                  have hbd := bounds_ok (X := X) (w := w) (b := true) (cap := cv) hE hl hbh q1 (by omega)
                  cases hb2 : Nat.beq l 0 || Nat.blt (Nat.mul (Nat.add e0 l) sz) (known h b sz) with
                  | true =>
                    rw [hb2] at hv
                    injection hv with hv; subst hv
                    refine ⟨_, hrun l H cv hbd, ?_⟩
                    simp only [IV]
                    refine ⟨g, c, hg, ?_⟩
                    have hcap : cv - l = capOf c (e0 + l) none := by simp only [capOf]; omega
                    rcases Bool.or_eq_true _ _ ▸ hb2 with hb2 | hb2
                    · have : l = 0 := Nat.eq_of_beq_eq_true hb2
                      subst this
                      rw [hcap]
                      simp
                    · have : e0 + l < c := known_lt hs hg q3 (by simpa [Nat.blt_eq] using hb2)
                      rw [if_neg (by omega), hcap]
                      rfl
                  | false =>
                    rw [hb2] at hv
                    simp only at hv
                    cases hb3 : Nat.beq l H with
                    | false => rw [hb3] at hv; cases hv
                    | true =>
                      rw [hb3] at hv
                      injection hv with hv; subst hv
                      have : l = H := Nat.eq_of_beq_eq_true hb3
                      refine ⟨_, hrun l H cv hbd, ?_⟩
                      simp only [IV]
                      rw [this, Nat.sub_self]
                      by_cases hcH : cv = H
                      · rw [if_pos hcH]; exact ⟨_, _, rfl⟩
                      · rw [if_neg hcH]; exact ⟨_, _, rfl⟩
          · rename_i m
            cases hi with
            | none => cases hv
            | some hi =>
              simp only at hv
              cases hbh : bnd ρ (some hi) 0 with
              | none => rw [hbh] at hv; cases hv
              | some H =>
                rw [hbh] at hv
                simp only at hv
                cases hbm : bnd ρ (some m) 0 with
                | none => rw [hbm] at hv; cases hv
                | some mm =>
                  rw [hbm] at hv
                  simp only at hv
                  cases cap with
                  | some k =>
                    simp only at hv
                    unfold slCap at hv
                    cases hb : Nat.ble l H && Nat.ble H mm && Nat.ble mm k with
                    | false => rw [hb] at hv; cases hv
                    | true =>
                      rw [hb] at hv
                      injection hv with hv
                      obtain ⟨q1, q2, q3⟩ := bool3 hb
                      have : cv = k := hcv.symm
                      subst this
                      exact hcapV l H mm (Nat.le_of_ble_eq_true q1) hv.symm (bounds3_ok (b := true) hE hl hbh hbm (Nat.le_of_ble_eq_true q1) (Nat.le_of_ble_eq_true q2) (Nat.le_of_ble_eq_true q3))
                  | none =>
                    simp only at hv
                    unfold slRow3 at hv
                    cases hb : Nat.ble l H && Nat.ble H mm && (Nat.ble (Nat.mul (Nat.add e0 mm) sz) (known h b sz) && Nat.blt 0 sz) with
                    | false => rw [hb] at hv; cases hv
                    | true =>
                      rw [hb] at hv
                      injection hv with hv
                      obtain ⟨q1, q2, q3⟩ := bool3 hb
                      rw [Bool.and_eq_true] at q3
                      have q4 : 0 < sz := by simpa [Nat.blt_eq] using q3.2
                      have q5 : e0 + mm ≤ c := known_le hs hg q4 (Nat.le_of_ble_eq_true q3.1)
                      have hcv' : cv = c - e0 := hcv.symm
                      exact hcapV l H mm (Nat.le_of_ble_eq_true q1) hv.symm (bounds3_ok (b := true) hE hl hbh hbm (Nat.le_of_ble_eq_true q1) (Nat.le_of_ble_eq_true q2) (by omega))
        · trivial
      · trivial
    · trivial
  · rename_i b off hx
    split
    · rename_i n ei hei
      obtain ⟨e, hu, ht⟩ := arrTI_ok hX hei
      have h1 := ev_ok hE hx
      simp only [IV] at h1
      obtain ⟨g, c, hg, he⟩ := h1
      split
      · rename_i l hl
        split
        · rename_i H hbh
          split
          · unfold slArr
            cases hb : Nat.ble l H && Nat.ble H n && Nat.beq (Nat.mul (Nat.div off ei.sz) ei.sz) off with
            | false => trivial
            | true =>
              obtain ⟨q1, q2, q3⟩ := bool3 hb
              have hoff : off / ei.sz * ei.sz = off := Nat.eq_of_beq_eq_true q3
              have hbd := bounds_ok (X := X) (w := w) (b := false) hE hl hbh (Nat.le_of_ble_eq_true q1) (Nat.le_of_ble_eq_true q2)
              refine ⟨.slice (some ⟨g, (if n = l then off / ei.sz else off / ei.sz + l) * ei.sz, none⟩) (H - l) (n - l), ?_, ?_⟩
              · simp only [execOp, ho, he, Instr.sliceAt, Sem.run_bind, run_underlying hu, Result.andThen, Instr.sureAddr, Option.map_none]
                simp only [Sem.run_pure, hbd, run_sizeOf' ht]
                by_cases hml : n = l
                · simp [hml, hoff]
                · simp [hml, addr_add', Nat.add_mul, hoff]
              · simp only [IV]
                refine ⟨g, c, hg, ?_⟩
                by_cases hml : n = l
                · subst hml; simp [cond, capOf]; rfl
                · have : Nat.beq n l = false := by
                    cases hbb : Nat.beq n l with
                    | false => rfl
                    | true => exact absurd (Nat.eq_of_beq_eq_true hbb) hml
                  rw [if_neg hml, this]; rfl
          · trivial
        · trivial
      · trivial
    · trivial
  · trivial
end
end Go.EV
