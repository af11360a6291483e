/-
  Each step of the runner is the model's: what makes blocks and what writes.
-/
import Derived.Test.YthokbcjofkgopaaGreatDoorEvStp3
namespace Go.EV
open Go Go.HL

section
variable {X : Sx} {GK K : List KP} {M : List Own} {γ : Va} {ρ : Rho} {h : Hp} {w0 w : World} {a : Act} {o : Oper}

/-- A block made. -/
theorem new_ok (hs : St ⟨K, hO γ h :: M⟩ w0 w) {ob : Obj} {ao : AO} {c : Nat} {v : AV} {u : Nat → Value} (hov : ∀ γ', Le γ γ' → OV γ' c ao ob) (hv : ∀ γ' g, γ' h.next = some (g, c) → IV γ' v (u g))
    (hr : (execOp a.eval o).run X.P w = .ok (.value (u w.heap.size)) { w with heap := w.heap.push ob }) : Good X.P K M γ h w0 a w o (.eff v (newB h ao)) := by
  have hf := st_fresh hs (Nat.le_refl h.next)
  have hx : Ext h.next γ (upV γ h.next (w.heap.size, c)) := ext_up hf (Nat.le_refl _)
  exact ⟨_, _, _, upV γ h.next (w.heap.size, c), hr, .inl rfl, hv _ _ (by simp [upV]), hx, Nat.le_succ _, st_new hs ao c ob (hov _ hx.le) rfl ⟨rfl, rfl, rfl⟩⟩
theorem ov_cells {γ : Va} {c : Nat} {l : List AV} {us : List Value} {e : TypeId} (hv : IVL γ l us) : OV γ c (.cells l) (.cells us.toArray e) := ⟨us, e, (0, 0), hv, rfl, .inl rfl⟩

theorem oAlloc_ok (hX : XOk X GK) (hs : St ⟨K, hO γ h :: M⟩ w0 w) {t : TypeId} (ho : o.op = .alloc t) : Good X.P K M γ h w0 a w o (oAlloc X h t) := by
  unfold oAlloc
  split
  · rename_i ti hti
    have hok := hX.tt t ti hti
    refine new_ok (c := 0) (ob := .cells ti.zero.cells.toList.toArray t) (u := fun g => .pointer (some ⟨g, 0, none⟩)) hs (fun γ' _ => ov_cells (iv_cellsA (iv_v.2 rfl))) (fun γ' g hg => by simp only [IV]; exact ⟨g, 0, hg, rfl⟩) ?_
    simp [execOp, ho, Instr.alloc, run_zero' hok, newVar, newRow]
  · trivial
theorem oBox_ok (hE : EnvR γ ρ a) (hs : St ⟨K, hO γ h :: M⟩ w0 w) {t : TypeId} {x : Operand} (ho : o.op = .box t x) : Good X.P K M γ h w0 a w o (oBox ρ h x) := by
  unfold oBox
  split
  · rename_i v hx
    have h1 := ev_ok hE hx
    refine new_ok (c := 0) (ob := .cells (a.eval x).cells.toList.toArray t) (u := fun g => .pointer (some ⟨g, 0, none⟩)) hs (fun γ' hle => ov_cells (iv_cellsA (h1.mono hle))) (fun γ' g hg => by simp only [IV]; exact ⟨g, 0, hg, rfl⟩) ?_
    simp [execOp, ho, Instr.box, newVar, newRow]
  · trivial

theorem repZ_ok {z : AV} {us : List Value} (hz : IVL γ (cellsA z) us) : ∀ n, IVL γ (repZ (cellsA z) n) (List.replicate n us).flatten
  | 0 => IVL.nil
  | n + 1 => by rw [List.replicate_succ, List.flatten_cons]; exact IVL.append (repZ_ok hz n) hz
theorem zeros_eq {z : Value} : ∀ (n : Nat), (Builtin.zeroCells z.cells n).toList = (List.replicate n z.cells.toList).flatten := by
  intro n
  unfold Builtin.zeroCells
  rw [Array.toList_map, Array.toList_range]
  generalize hs : z.cells.toList = zc
  have hz : z.cells = zc.toArray := by rw [← hs]
  rw [hz]
  simp only [List.size_toArray]
  induction n with
  | zero => simp
  | succ n ih =>
    rw [Nat.add_mul, Nat.one_mul, List.range_add, List.map_append, List.replicate_succ', List.flatten_append, ih]
    congr 1
    simp only [List.flatten_cons, List.flatten_nil, List.append_nil, List.map_map]
    apply List.ext_getElem?
    intro j
    simp only [List.getElem?_map]
    by_cases hj : j < zc.length
    · rw [List.getElem?_range hj]
      simp only [Option.map_some, Function.comp]
      have : (n * zc.length + j) % zc.length = j := by rw [Nat.mul_comm, Nat.mul_add_mod]; exact Nat.mod_eq_of_lt hj
      rw [this]
      rw [getElem!_pos _ _ (by simpa using hj), List.getElem?_eq_getElem hj]
      simp
    · rw [List.getElem?_eq_none (by simpa using hj), List.getElem?_eq_none (by omega)]; rfl
theorem range_zeros {z : Value} {sz n : Nat} (hz : z.cells.size = sz) : ((Array.range (n * sz)).map (z.cells[· % z.cells.size]!)) = (List.replicate n z.cells.toList).flatten.toArray := by
  rw [← zeros_eq n]
  unfold Builtin.zeroCells
  rw [hz]

theorem oBuildSlice_ok (hX : XOk X GK) (hE : EnvR γ ρ a) (hs : St ⟨K, hO γ h :: M⟩ w0 w) {t : TypeId} {len : Nat} {ps : Array (Nat × Operand)} (ho : o.op = .buildSlice t len ps) : Good X.P K M γ h w0 a w o (oBuildSlice X ρ h t len ps.toList) := by
  unfold oBuildSlice
  split
  · rename_i ei hei
    obtain ⟨e, hu, ht⟩ := elemTI_ok hX hei
    split
    · rename_i vs hvs
      split
      · rename_i hle
        have hle : len * ei.sz ≤ 16777216 := Nat.le_of_ble_eq_true hle
        split
        · rename_i cs hcs
          have hz0 : IVL γ (cellsA (.v ei.zero)) ei.zero.cells.toList := iv_cellsA (iv_v.2 rfl)
          obtain ⟨us, hu1, hu2⟩ := fill_ok (place' := fun i => some (i * ei.sz, ei.sz)) (fun i q hq => hq) (zip_pv hE hvs) (repZ_ok hz0 len) hcs
          refine new_ok (c := 0) (ob := .cells us.toArray e) (u := fun g => .slice (some ⟨g, 0, none⟩) len len) hs (fun γ' hle => ov_cells (hu2.mono hle)) (fun γ' g hg => by simp only [IV]; exact ⟨g, 0, hg, by simp [capOf]⟩) ?_
          have hparts : (ps.map fun (x : Nat × Operand) => (x.1, a.eval x.2)).toList = ps.toList.map fun (x : Nat × Operand) => (x.1, a.eval x.2) := by rw [Array.toList_map]
          have hn : ¬ (len * ei.sz > 2 ^ 24) := by omega
          by_cases h0 : len * ei.sz = 0
          · have hnil : (List.replicate len ei.zero.cells.toList).flatten = [] := by
              apply List.eq_nil_of_length_eq_zero
              rw [List.length_flatten, List.map_replicate, List.sum_replicate_nat]
              have : ei.zero.cells.toList.length = ei.sz := by rw [Array.length_toList]; exact ht.zs
              rw [this]; exact h0
            rw [hnil] at hu1
            simp only [execOp, ho, Instr.buildSlice, Sem.run_bind, run_underlying hu, Result.andThen, run_sizeOf' ht, if_neg hn, if_pos h0, hparts]
            have hr0 : Array.range 0 = #[] := rfl
            have hu1' : Instr.fill (fun i => some (i * ei.sz, ei.sz)) #[] (ps.toList.map fun (x : Nat × Operand) => (x.1, a.eval x.2)) = some us.toArray := by simpa using hu1
            simp [h0, hr0, hu1', newRow]
          · rw [← range_zeros ht.zs] at hu1
            simp only [execOp, ho, Instr.buildSlice, Sem.run_bind, run_underlying hu, Result.andThen, run_sizeOf' ht, if_neg hn, if_neg h0, hparts]
            simp [run_zero' ht, hu1, newRow]
        · trivial
      · trivial
    · trivial
  · trivial

theorem oMakeSlice_ok (hX : XOk X GK) (hE : EnvR γ ρ a) (hs : St ⟨K, hO γ h :: M⟩ w0 w) {t : TypeId} {l c : Operand} (ho : o.op = .makeSlice t l c) : Good X.P K M γ h w0 a w o (oMakeSlice X ρ h t l c) := by
  unfold oMakeSlice
  split
  · rename_i ei hei
    obtain ⟨e, hu, ht⟩ := elemTI_ok hX hei
    split
    · rename_i n hn
      split
      · rename_i m hm
        obtain ⟨k1, e1⟩ := natO_ok hE hn
        obtain ⟨k2, e2⟩ := natO_ok hE hm
        cases hb : Nat.ble n m && Nat.ble (Nat.mul m ei.by_) 16777216 && Nat.ble m 16777216 with
        | false => trivial
        | true =>
          obtain ⟨q1, q2, q3⟩ := bool3 hb
          have q1 := Nat.le_of_ble_eq_true q1
          have q2 : m * ei.by_ ≤ 16777216 := Nat.le_of_ble_eq_true q2
          have q3 := Nat.le_of_ble_eq_true q3
          have hz0 : ∀ γ', IVL γ' (cellsA (.v ei.zero)) ei.zero.cells.toList := fun γ' => iv_cellsA (iv_v.2 rfl)
          refine new_ok (c := 0) (ob := .cells (List.replicate m ei.zero.cells.toList).flatten.toArray e) (u := fun g => .slice (some ⟨g, 0, none⟩) n m) hs (fun γ' hle => ov_cells (repZ_ok (hz0 γ') m)) (fun γ' g hg => by simp only [IV]; exact ⟨g, 0, hg, by simp [capOf]⟩) ?_
          obtain ⟨i, hi, hi1, hi2, hi3⟩ := ht.info
          have w1 : IntKind.i64.wrap (n : Int) = n := by rw [IntKind.wrap_i64]; omega
          have w2 : IntKind.i64.wrap (m : Int) = m := by rw [IntKind.wrap_i64]; omega
          have t1 : ¬ ((m : Int) < 0) := by omega
          have hb2 : ¬ ((ei.by_ : Int) * (m : Int) > 281474976710656) := by
            have : (ei.by_ : Int) * (m : Int) = ((m * ei.by_ : Nat) : Int) := by rw [Nat.mul_comm]; simp
            omega
          have hroom : ¬ (m * ei.by_ > roomBytes) := by unfold roomBytes; omega
          have t2 : ¬ ((n : Int) < 0) := by omega
          have t3 : ¬ ((n : Int) > (m : Int)) := by omega
          by_cases h0 : m * ei.sz = 0
          · have hnil : (List.replicate m ei.zero.cells.toList).flatten = [] := by
              apply List.eq_nil_of_length_eq_zero
              rw [List.length_flatten, List.map_replicate, List.sum_replicate_nat]
              have : ei.zero.cells.toList.length = ei.sz := by rw [Array.length_toList]; exact ht.zs
              rw [this]; exact h0
            rw [hnil]
            simp [execOp, ho, Instr.makeSlice, run_underlying hu, e1, e2, asInt, asIntOf, typeInfo, hi, w1, w2, hi2, t1, t2, t3, hb2, askRoom, run_sizeOf' ht, h0, newRow]
            have hr0 : Array.range 0 = #[] := rfl
            rw [hr0]; simp
          · rw [← range_zeros ht.zs]
            simp [execOp, ho, Instr.makeSlice, run_underlying hu, e1, e2, asInt, asIntOf, typeInfo, hi, w1, w2, hi2, t1, t2, t3, hb2, askRoom, run_sizeOf' ht, h0, newRow, run_zero' ht]
      · trivial
    · trivial
  · trivial
theorem oMakeMap_ok (hs : St ⟨K, hO γ h :: M⟩ w0 w) {t : TypeId} {r : Option Operand} (ho : o.op = .makeMap t r) : Good X.P K M γ h w0 a w o (oMakeMap h r) := by
  unfold oMakeMap
  split
  · refine new_ok (c := 0) (ob := .map #[] 0) (u := fun g => .map (some g)) hs (fun γ' hle => ⟨#[], 0, rfl, .nil⟩) (fun γ' g hg => by simp only [IV]; exact ⟨g, 0, hg, rfl⟩) ?_
    simp [execOp, ho, Instr.makeMap]
  · trivial

/-! ## Writing -/

theorem eff0 {v : AV} {u : Value} {nx : Next} {w' : World} {h' : Hp} (hr : (execOp a.eval o).run X.P w = .ok nx w') (hn : nx = .value u ∨ nx = .skip ∧ u = undef) (hv : IV γ v u) (hnx : h'.next = h.next) (hs : St ⟨K, hO γ h' :: M⟩ w0 w') :
    Good X.P K M γ h w0 a w o (.eff v h') := ⟨nx, u, w', γ, hr, hn, hv, Ext.refl _ _, by rw [hnx]; exact Nat.le_refl _, hs⟩
theorem effO_ok {v : AV} {r : Option Hp} (hr : ∀ h', r = some h' → Good X.P K M γ h w0 a w o (.eff v h')) : Good X.P K M γ h w0 a w o (effO v r) := by
  cases r with
  | none => trivial
  | some h' => exact hr h' rfl

theorem oStore_ok (hX : XOk X GK) (hE : EnvR γ ρ a) (hs : St ⟨K, hO γ h :: M⟩ w0 w) {t : TypeId} {x y : Operand} (ho : o.op = .store t x y) : Good X.P K M γ h w0 a w o (oStore X ρ h t x y) := by
  unfold oStore
  split
  · rename_i ti hti
    have hok := hX.tt t ti hti
    split
    · rename_i b off hx
      split
      · rename_i v hy
        unfold stB
        split
        · rename_i hl
          refine effO_ok fun h' hw => ?_
          have hl := Nat.eq_of_beq_eq_true hl
          have h1 := ev_ok hE hx
          simp only [IV] at h1
          obtain ⟨g, c, hg, he⟩ := h1
          have hvy := iv_cellsA (ev_ok hE hy)
          obtain ⟨g', c', hg', hc, hf, h1c, hnx, hst⟩ := wr_ok hw hvy hs
          rw [hg] at hg'; injection hg' with hg'; injection hg' with hg' _; subst hg'
          have hsz : (a.eval y).cells.size = ti.sz := by rw [← Array.length_toList, hvy.len]; exact hl
          have hrun := run_storeCells_cells (P := X.P) g off (a.eval y).cells.toList 0 w (by simpa using hc) (by simpa using hf) h1c
          simp only [Nat.add_zero] at hrun
          refine eff0 (nx := .skip) (u := undef) (w' := w.setCells g off (a.eval y).cells.toList) ?_ (.inr ⟨rfl, rfl⟩) (iv_v.2 rfl) hnx hst
          simp [execOp, ho, he, Instr.storeAt, Instr.sureAddr, storeVar, run_sizeOf' hok, hsz, hrun]
        · trivial
      · trivial
    · trivial
  · trivial

theorem setK_ok {d : TypeDesc} {k : Value} {u : Value} {v : AV} (hd : keyOk d k = true) (hv : IV γ v u) : ∀ {es es' : List (Value × AV)} {l : List MapEntry} (i : Nat), EVL γ es l → setK k v es = some es' →
    (Instr.findNow d k l i = some none ∧ ∀ e : MapEntry, e.key = k → e.val = u → EVL γ es' (l ++ [e])) ∨
    ∃ j e, Instr.findNow d k l i = some (some (i + j, e.val)) ∧ l[j]? = some e ∧ e.key = k ∧ EVL γ es' (l.modify j fun e => { e with key := k, val := u }) := by
  intro es
  induction es with
  | nil =>
    intro es' l i he hf
    cases he
    simp only [setK] at hf; injection hf with hf; subst hf
    exact .inl ⟨rfl, fun e h1 h2 => .cons h1 (h2 ▸ hv) .nil⟩
  | cons p es ih =>
    obtain ⟨k', x⟩ := p
    intro es' l i he hf
    cases he with
    | @cons _ _ _ e l hk hx he =>
      simp only [setK] at hf
      cases hq : keyEq k k' with
      | none => rw [hq] at hf; cases hf
      | some b =>
        rw [hq] at hf
        have hs := keyEq_ok hq hd
        rw [← hk] at hs
        cases b with
        | true =>
          injection hf with hf; subst hf
          have hkk : e.key = k := by
            rw [hk]
            unfold keyEq at hq
            split at hq
            · split at hq
              · injection hq with hq; rename_i h1; subst h1; have := of_decide_eq_true hq; rw [this]
              · cases hq
            · injection hq with hq; have := (Go.MapKept.bytes_beq _ _).mp hq; rw [this]
            · cases hq
          exact .inr ⟨0, e, by simp [Instr.findNow, hs], rfl, hkk, by simp; exact .cons rfl hv he⟩
        | false =>
          cases hr : setK k v es with
          | none => rw [hr] at hf; cases hf
          | some es2 =>
            rw [hr] at hf
            injection hf with hf; subst hf
            rcases ih (i + 1) he hr with ⟨h1, h2⟩ | ⟨j, e', h1, h2, h3, h4⟩
            · exact .inl ⟨by simp [Instr.findNow, hs, h1], fun e2 q1 q2 => .cons hk hx (h2 e2 q1 q2)⟩
            · exact .inr ⟨j + 1, e', by simp only [Instr.findNow, hs]; rw [h1]; congr 3; omega, by simpa using h2, h3, by simp; exact .cons hk hx h4⟩
theorem delK_ok {d : TypeDesc} {k : Value} (hd : keyOk d k = true) : ∀ {es es' : List (Value × AV)} {l : List MapEntry} (i : Nat), EVL γ es l → delK k es = some es' →
    (Instr.findNow d k l i = some none ∧ EVL γ es' l) ∨ ∃ j e, Instr.findNow d k l i = some (some (i + j, e.val)) ∧ l[j]? = some e ∧ EVL γ es' (l.eraseIdx j) := by
  intro es
  induction es with
  | nil =>
    intro es' l i he hf
    cases he
    simp only [delK] at hf; injection hf with hf; subst hf
    exact .inl ⟨rfl, .nil⟩
  | cons p es ih =>
    obtain ⟨k', x⟩ := p
    intro es' l i he hf
    cases he with
    | @cons _ _ _ e l hk hx he =>
      simp only [delK] at hf
      cases hq : keyEq k k' with
      | none => rw [hq] at hf; cases hf
      | some b =>
        rw [hq] at hf
        have hs := keyEq_ok hq hd
        rw [← hk] at hs
        cases b with
        | true =>
          injection hf with hf; subst hf
          exact .inr ⟨0, e, by simp [Instr.findNow, hs], rfl, by simpa using he⟩
        | false =>
          cases hr : delK k es with
          | none => rw [hr] at hf; cases hf
          | some es2 =>
            rw [hr] at hf
            injection hf with hf; subst hf
            rcases ih (i + 1) he hr with ⟨h1, h2⟩ | ⟨j, e', h1, h2, h3⟩
            · exact .inl ⟨by simp [Instr.findNow, hs, h1], .cons hk hx h2⟩
            · exact .inr ⟨j + 1, e', by simp only [Instr.findNow, hs]; rw [h1]; congr 3; omega, by simpa using h2, by simp; exact .cons hk hx h3⟩

theorem heap_set' {g : Nat} {ob ob' : Obj} (hw : w.heap[g]? = some ob) : ({ w with heap := w.heap.setIfInBounds g ob' } : World).heap[g]? = some ob' ∧ ∀ k, k ≠ g → ({ w with heap := w.heap.setIfInBounds g ob' } : World).heap[k]? = w.heap[k]? := by
  have hlt : g < w.heap.size := by
    rcases Nat.lt_or_ge g w.heap.size with h' | h'
    · exact h'
    · rw [Array.getElem?_eq_none h'] at hw; cases hw
  refine ⟨by simp [hlt], fun k hk => ?_⟩
  simp only [Array.getElem?_setIfInBounds]
  rw [if_neg (Ne.symm hk)]
theorem bits_ok {d : TypeDesc} {k : Value} (hd : keyOk d k = true) (n : Nat) : Instr.sameBits n k k = true := by
  unfold keyOk at hd
  split at hd
  · unfold Instr.sameBits; simp
  · unfold Instr.sameBits; exact (Go.MapKept.bytes_beq _ _).mpr rfl
  · cases hd
theorem oMapUpdate_ok (hX : XOk X GK) (hE : EnvR γ ρ a) (hs : St ⟨K, hO γ h :: M⟩ w0 w) {t : TypeId} {x y z : Operand} (ho : o.op = .mapUpdate t x y z) : Good X.P K M γ h w0 a w o (oMapUpdate X ρ h t x y z) := by
  unfold oMapUpdate
  split
  · rename_i b hb
    split
    · rename_i k hk
      split
      · rename_i ei hei
        split
        · rename_i v hv
          split
          · rename_i es hm
            obtain ⟨kt, e, d, hu, ht, hku, hko⟩ := mapKT_ok hX hei
            obtain ⟨htg, g, cp, arr, clock, hg, hw, hev⟩ := mapAt_ok hs hm
            obtain ⟨g', c', hg', he⟩ := mapO_ok hE hb
            rw [hg] at hg'; injection hg' with hg'; injection hg' with hg' _; subst hg'
            have hkv := valO_ok hE hk
            have hck := checkKey_ok (w := w) hku hko false 9999
            have hvz := ev_ok hE hv
            cases hf : setK k v es with
            | none => trivial
            | some es' =>
              simp only [setM]
              rcases setK_ok hko hvz 0 hev hf with ⟨hfn, hpush⟩ | ⟨j, en, hfn, hj, hkey, hmod⟩
              · have hfk := run_findKey' (w := w) hku hfn
                obtain ⟨hs1, hs2⟩ := heap_set' (ob' := .map (arr.push { key := k, val := a.eval z, born := clock }) (clock + 1)) hw
                refine eff0 (nx := .skip) (u := undef) (w' := { w with heap := w.heap.setIfInBounds g (.map (arr.push { key := k, val := a.eval z, born := clock }) (clock + 1)) }) ?_ (.inr ⟨rfl, rfl⟩) (iv_v.2 rfl) rfl
                  (st_upd hs htg hg ⟨_, _, rfl, by rw [Array.toList_push]; exact hpush _ rfl rfl⟩ hs2 hs1 ⟨rfl, rfl, rfl⟩)
                simp [execOp, ho, he, hkv, Instr.mapUpdate, run_underlying hu, Go.MapKept.run_getObj_map hw, hck, hfk, Go.MapKept.run_setObj_map _ hw]
              · have hfk := run_findKey' (w := w) hku hfn
                have hjs : arr[j]? = some en := by simpa using hj
                have hstay : (Instr.keyThatStays (((arr[j]?).map (·.key)).getD k) k).run X.P w = .ok k w := by
                  rw [hjs]
                  simp only [Option.map_some, Option.getD_some, hkey]
                  unfold Instr.keyThatStays
                  rw [if_pos (bits_ok hko _)]; rfl
                obtain ⟨hs1, hs2⟩ := heap_set' (ob' := .map (arr.modify j fun e => { e with key := k, val := a.eval z }) clock) hw
                refine eff0 (nx := .skip) (u := undef) (w' := { w with heap := w.heap.setIfInBounds g (.map (arr.modify j fun e => { e with key := k, val := a.eval z }) clock) }) ?_ (.inr ⟨rfl, rfl⟩) (iv_v.2 rfl) rfl
                  (st_upd hs htg hg ⟨_, _, rfl, by rw [Array.toList_modify]; exact hmod⟩ hs2 hs1 ⟨rfl, rfl, rfl⟩)
                try simp only [Nat.zero_add] at hfk
                simp [execOp, ho, he, hkv, Instr.mapUpdate, run_underlying hu, Go.MapKept.run_getObj_map hw, hck, hfk, hstay, Go.MapKept.run_setObj_map _ hw]
          · trivial
        · trivial
      · trivial
    · trivial
  · trivial
theorem list1 {α : Type} {q : Array α} {x y : α} {r : List α} (hq : q.toList = x :: y :: r) : q[1]? = some y := by
  rw [← Array.getElem?_toList, hq]; rfl
theorem oDelete_ok (hX : XOk X GK) (hE : EnvR γ ρ a) (hs : St ⟨K, hO γ h :: M⟩ w0 w) {c : Call} (ho : o.op = .call c) (hc : c.callee = .builtin .delete) : Good X.P K M γ h w0 a w o (oDelete X ρ h c.argTypes.toList c.args.toList) := by
  unfold oDelete
  split
  · rename_i t ts hts
    split
    · rename_i x y hargs
      have hargs' : c.args = #[x, y] := Array.ext' (by rw [hargs])
      split
      · rename_i b hb
        split
        · rename_i k hk
          split
          · rename_i ei hei
            split
            · rename_i es hm
              obtain ⟨kt, e, d, hu, ht, hku, hko⟩ := mapKT_ok hX hei
              obtain ⟨htg, g, cp, arr, clock, hg, hw, hev⟩ := mapAt_ok hs hm
              obtain ⟨g', c', hg', he⟩ := mapO_ok hE hb
              rw [hg] at hg'; injection hg' with hg'; injection hg' with hg' _; subst hg'
              have hkv := valO_ok hE hk
              have hck := checkKey_ok (w := w) hku hko arr.isEmpty 9999
              cases hf : delK k es with
              | none => trivial
              | some es' =>
                simp only [setM]
                rcases delK_ok hko 0 hev hf with ⟨hfn, hpush⟩ | ⟨j, en, hfn, hj, hmod⟩
                · have hfk := run_findKey' (w := w) hku hfn
                  obtain ⟨hs1, hs2⟩ := heap_set' (ob' := .map arr clock) hw
                  refine eff0 (nx := .value undef) (u := undef) (w' := { w with heap := w.heap.setIfInBounds g (.map arr clock) }) ?_ (.inl rfl) (iv_v.2 rfl) rfl
                    (st_upd hs htg hg ⟨_, _, rfl, hpush⟩ hs2 hs1 ⟨rfl, rfl, rfl⟩)
                  simp [execOp, ho, resolve, hc, invoke, builtin, hargs', he, hkv, Builtin.delete_, list0 hts, run_underlying hu, Go.MapKept.run_getObj_map hw, hck, hfk, Go.MapKept.run_setObj_map _ hw, undef]
                · have hfk := run_findKey' (w := w) hku hfn
                  try simp only [Nat.zero_add] at hfk
                  have hlt : j < arr.size := by have := (List.getElem?_eq_some_iff.1 hj).1; simpa using this
                  have hE' : (arr.eraseIdxIfInBounds j).toList = arr.toList.eraseIdx j := by
                    unfold Array.eraseIdxIfInBounds
                    rw [dif_pos hlt, Array.toList_eraseIdx]
                  obtain ⟨hs1, hs2⟩ := heap_set' (ob' := .map (arr.eraseIdxIfInBounds j) clock) hw
                  refine eff0 (nx := .value undef) (u := undef) (w' := { w with heap := w.heap.setIfInBounds g (.map (arr.eraseIdxIfInBounds j) clock) }) ?_ (.inl rfl) (iv_v.2 rfl) rfl
                    (st_upd hs htg hg ⟨_, _, rfl, by rw [hE']; exact hmod⟩ hs2 hs1 ⟨rfl, rfl, rfl⟩)
                  simp [execOp, ho, resolve, hc, invoke, builtin, hargs', he, hkv, Builtin.delete_, list0 hts, run_underlying hu, Go.MapKept.run_getObj_map hw, hck, hfk, Go.MapKept.run_setObj_map _ hw, undef]
            · trivial
          · trivial
        · trivial
      · trivial
    · trivial
  · trivial
end
end Go.EV
