/-
  Regions whose order is drawn: the invariant of the runner's table.
-/
import Derived.Test.YthokbcjofkgopaaGreatDoorEvDrw
namespace Go.EV
open Go Go.HL

/-! ## What does not hang on the heap -/

/-- no pure result, no call -/
def NPC (r : Res) : Prop := (∀ v, r ≠ .pure v) ∧ ∀ f a, r ≠ .call f a
theorem npc_no : NPC .no := ⟨(fun _ h => by cases h), (fun _ _ h => by cases h)⟩
theorem npc_rd {v : AV} : NPC (.rd v) := ⟨(fun _ h => by cases h), (fun _ _ h => by cases h)⟩
theorem npc_eff {v : AV} {h : Hp} : NPC (.eff v h) := ⟨(fun _ h => by cases h), (fun _ _ h => by cases h)⟩
theorem npc_effO {v : AV} {r : Option Hp} : NPC (effO v r) := by cases r <;> first | exact npc_no | exact npc_eff
theorem npc_rO {r : Option AV} : NPC (rO r) := by cases r <;> first | exact npc_no | exact npc_rd
theorem npc_setM {h : Hp} {b : Nat} {r : Option (List (Value × AV))} : NPC (setM h b r) := by cases r <;> first | exact npc_no | exact npc_eff
theorem npc_lenM {r : Option (List (Value × AV))} : NPC (lenM r) := by cases r <;> first | exact npc_no | exact npc_rd
theorem npc_when {b : Bool} {r : Res} (h : NPC r) : NPC (whenB b r) := by cases b <;> first | exact npc_no | exact h
theorem npc_refr {h : Hp} {b : Nat} {v : AV} {r : Option AO} : NPC (refr h b v r) := by unfold refr; split <;> first | exact npc_no | exact npc_eff
theorem npc_appRow {h : Hp} {bt b e0 sz len n : Nat} {new : List AV} : NPC (appRow h bt b e0 sz len n new) := by
  unfold appRow
  split
  · exact npc_effO
  · split
    · exact npc_no
    · split
      · split <;> first | exact npc_eff | exact npc_no
      · exact npc_no
theorem npc_appCap {h : Hp} {bt b e0 sz len n c : Nat} {new : List AV} : NPC (appCap h bt b e0 sz len n c new) := by
  unfold appCap
  split
  · exact npc_effO
  · split
    · split <;> first | exact npc_eff | exact npc_no
    · exact npc_no
theorem npc_appOp {h : Hp} {ei : TI} {s : AV} {n : Nat} {new : List AV} : NPC (appOp h ei s n new) := by
  unfold appOp
  split
  · split
    · exact npc_when npc_eff
    · split <;> first | exact npc_eff | exact npc_no
  · split
    · exact npc_when npc_eff
    · exact npc_no
  · split
    · exact npc_no
    · split <;> first | exact npc_appCap | exact npc_appRow
  · exact npc_no
theorem npc_cvStr {X : Sx} {h : Hp} {s : TypeId} {b e0 sz len : Nat} : NPC (cvStr X h s b e0 sz len) := by
  unfold cvStr
  split
  · split
    · split <;> first | exact npc_rd | exact npc_no
    · exact npc_no
  · exact npc_no
theorem npc_same {X : Sx} {ρ : Rho} {h h' : Hp} {o : Oper} (h1 : NPC (stepO X ρ h o)) : (∀ v, stepO X ρ h o = .pure v → stepO X ρ h' o = .pure v) ∧ (∀ f args, stepO X ρ h o = .call f args → stepO X ρ h' o = .call f args) :=
  ⟨fun v hv => absurd hv (h1.1 v), fun f as hv => absurd hv (h1.2 f as)⟩
theorem same_of {r r' : Res} (h : r = r' ∨ NPC r) : (∀ v, r = .pure v → r' = .pure v) ∧ (∀ f args, r = .call f args → r' = .call f args) := by
  rcases h with rfl | h
  · exact ⟨fun _ h => h, fun _ _ h => h⟩
  · exact ⟨fun v hv => absurd hv (h.1 v), fun f as hv => absurd hv (h.2 f as)⟩
/-- Steps that look at slots alone come to the same over any heap. -/
theorem step_indep {X : Sx} {ρ : Rho} {h : Hp} {o : Oper} (h' : Hp) : (∀ v, stepO X ρ h o = .pure v → stepO X ρ h' o = .pure v) ∧ (∀ f args, stepO X ρ h o = .call f args → stepO X ρ h' o = .call f args) := by
  refine same_of ?_
  unfold stepO
  cases ho : o.op with
  | alloc t => right; show NPC (oAlloc X h t); unfold oAlloc; split <;> first | exact npc_eff | exact npc_no
  | box t x => right; show NPC (oBox ρ h x); unfold oBox; split <;> first | exact npc_eff | exact npc_no
  | buildSlice t n ps =>
    right; show NPC (oBuildSlice X ρ h t n ps.toList); unfold oBuildSlice
    split
    · split
      · split
        · split <;> first | exact npc_eff | exact npc_no
        · exact npc_no
      · exact npc_no
    · exact npc_no
  | load t x =>
    right; show NPC (oLoad X ρ h t x); unfold oLoad
    split
    · split
      · unfold ldB; split <;> first | exact npc_rO | exact npc_no
      · unfold ldG
        split
        · split <;> first | exact npc_rO | exact npc_no
        · exact npc_no
      · exact npc_no
    · exact npc_no
  | store t x y =>
    right; show NPC (oStore X ρ h t x y); unfold oStore
    split
    · split
      · split
        · unfold stB; split <;> first | exact npc_effO | exact npc_no
        · exact npc_no
      · exact npc_no
    · exact npc_no
  | makeMap t r => right; show NPC (oMakeMap h r); unfold oMakeMap; split <;> first | exact npc_eff | exact npc_no
  | makeSlice t l c =>
    right; show NPC (oMakeSlice X ρ h t l c); unfold oMakeSlice
    split
    · split
      · split
        · split <;> first | exact npc_eff | exact npc_no
        · exact npc_no
      · exact npc_no
    · exact npc_no
  | mapUpdate t x y z =>
    right; show NPC (oMapUpdate X ρ h t x y z); unfold oMapUpdate
    split
    · split
      · split
        · split
          · split <;> first | exact npc_setM | exact npc_no
          · exact npc_no
        · exact npc_no
      · exact npc_no
    · exact npc_no
  | lookup t x y ok =>
    right; show NPC (oLookup X ρ h t x y ok); unfold oLookup
    split
    · split
      · split
        · split <;> first | exact npc_rO | exact npc_no
        · exact npc_no
      · exact npc_no
    · exact npc_no
  | slice t x lo hi mx =>
    show oSlice X ρ h o t x lo hi mx = oSlice X ρ h' o t x lo hi mx ∨ NPC (oSlice X ρ h o t x lo hi mx)
    unfold oSlice
    split
    · exact .inl rfl
    · right
      split
      · split
        · split <;> first | exact npc_rO | exact npc_no
        · exact npc_no
      · exact npc_no
    · exact .inl rfl
    · exact .inl rfl
  | convert s d x =>
    show oConvert X ρ h o s d x = oConvert X ρ h' o s d x ∨ NPC (oConvert X ρ h o s d x)
    unfold oConvert
    split
    · exact .inl rfl
    · right
      split
      · exact npc_cvStr
      · unfold cvOther; split <;> first | exact npc_refr | exact npc_no
    · split
      · exact .inl rfl
      · right; unfold cvBytes; split <;> first | exact npc_eff | exact npc_no
    · exact .inl rfl
  | call c =>
    show oCall X ρ h o c = oCall X ρ h' o c ∨ NPC (oCall X ρ h o c)
    unfold oCall
    split
    · exact .inl rfl
    · rename_i b hb
      unfold oBuiltin
      split
      · unfold oLen
        split
        · split
          · exact .inl rfl
          · exact .inl rfl
          · right; exact npc_when npc_lenM
          · exact .inl rfl
        · exact .inl rfl
      · exact .inl rfl
      · exact .inl rfl
      · exact .inl rfl
      · right; unfold oAppend
        split
        · split
          · split
            · split
              · split
                · split
                  · unfold appZ
                    split
                    · split <;> first | exact npc_appOp | exact npc_no
                    · exact npc_no
                  · split <;> first | exact npc_appOp | exact npc_no
                · exact npc_no
              · exact npc_no
            · exact npc_no
          · exact npc_no
        · exact npc_no
      · right; unfold oCopy
        split
        · split
          · split
            · split
              · split
                · split
                  · unfold copyTo
                    split
                    · split <;> first | exact npc_effO | exact npc_no
                    · exact npc_eff
                    · exact npc_eff
                    · exact npc_no
                  · exact npc_no
                · exact npc_no
              · exact npc_no
            · exact npc_no
          · exact npc_no
        · exact npc_no
      · right; unfold oClear
        split
        · split
          · split
            · split
              · unfold clearTo
                split
                · split <;> first | exact npc_effO | exact npc_no
                · exact npc_eff
                · exact npc_eff
                · exact npc_no
              · exact npc_no
            · exact npc_no
          · exact npc_no
        · exact npc_no
      · right; unfold oDelete
        split
        · split
          · split
            · split
              · split
                · split <;> first | exact npc_setM | exact npc_no
                · exact npc_no
              · exact npc_no
            · exact npc_no
          · exact npc_no
        · exact npc_no
      · exact .inl rfl
    · exact .inl rfl
  | _ => exact .inl rfl

section
variable {X : Sx} {GK K : List KP} {M : List Own} {γ : Va} {ρ : Rho} {h : Hp} {w0 w : World} {a : Act} {o : Oper}

/-! ## A block beside the heap -/

def kO (g : Nat) (ob : Obj) : Own := ⟨fun _ l => l = [(g, ob)], fun _ _ _ _ h => h⟩
theorem st_split {tr : Tr AO} {n m : Nat} {ao : AO} (hs : St ⟨K, hO γ ⟨tset tr n (some ao), m⟩ :: M⟩ w0 w) (hn : tget tr n = none) : ∃ g c ob, γ n = some (g, c) ∧ OV γ c ao ob ∧ St ⟨K, hO γ ⟨tr, m⟩ :: kO g ob :: M⟩ w0 w := by
  obtain ⟨H, l1, l2, hk, ho, hR, ha, h0⟩ := hs.focus Sel.head
  have hi : HInv γ ⟨tset tr n (some ao), m⟩ l1 := ho
  obtain ⟨g, c, ob, h1, h2, h3⟩ := hi.obj n ao (by rw [tget_tset, if_pos rfl])
  have hget : ∀ b o, tget tr b = some o → b ≠ n ∧ tget (tset tr n (some ao)) b = some o := fun b o hb => by
    have hne : b ≠ n := by rintro rfl; rw [hn] at hb; cases hb
    exact ⟨hne, by rw [tget_tset, if_neg hne]; exact hb⟩
  obtain ⟨p, q, rfl⟩ := List.append_of_mem h2
  refine ⟨g, c, ob, h1, h3, H, (p ++ q) ++ ([(g, ob)] ++ l2), hk, .cons (o := hO γ ⟨tr, m⟩) ⟨fun b o hb => ?_, fun b b' o o' g' c1 c2 hb hb' => ?_, hi.fresh⟩ (.cons (o := kO g ob) rfl hR), ?_, h0⟩
  · obtain ⟨hne, hb'⟩ := hget b o hb
    obtain ⟨g', c', ob', e1, e2, e3⟩ := hi.obj b o hb'
    refine ⟨g', c', ob', e1, ?_, e3⟩
    rcases List.mem_append.1 e2 with e2 | e2
    · exact List.mem_append_left _ e2
    · cases e2 with
      | head => exact absurd (hi.inj b n o ao g c' c hb' (by rw [tget_tset, if_pos rfl]) e1 h1) hne
      | tail _ e2 => exact List.mem_append_right _ e2
  · exact hi.inj b b' o o' g' c1 c2 (hget b o hb).2 (hget b' o' hb').2
  · refine ha.perm ?_
    rw [← List.append_assoc]
    refine List.Perm.append_right _ ?_
    rw [List.append_assoc]
    refine List.Perm.append_left p ?_
    exact (List.perm_append_comm (l₁ := q) (l₂ := [(g, ob)])).symm
theorem st_merge {tr : Tr AO} {n m g c : Nat} {ao : AO} {ob : Obj} (hs : St ⟨K, hO γ ⟨tr, m⟩ :: kO g ob :: M⟩ w0 w) (hg : γ n = some (g, c)) (hov : OV γ c ao ob) : St ⟨K, hO γ ⟨tset tr n (some ao), m⟩ :: M⟩ w0 w := by
  obtain ⟨H, l, hk, hm, ha, h0⟩ := hs
  cases hm with
  | @cons _ _ l1 l2 ho hm2 =>
    cases hm2 with
    | @cons _ _ l3 l4 hko hR =>
      have hko : l3 = [(g, ob)] := hko
      subst hko
      have hi : HInv γ ⟨tr, m⟩ l1 := ho
      have hnd := ha.2.2
      rw [List.map_append] at hnd
      have hn2 : ∀ ob', (g, ob') ∉ l1 := fun ob' hm => (List.nodup_append.1 hnd).2.2 _ (List.mem_map_of_mem hm) _ (List.mem_map_of_mem (List.mem_append_left _ (List.mem_singleton.2 rfl))) rfl
      refine ⟨H, _, hk, .cons (o := hO γ ⟨tset tr n (some ao), m⟩) (l1 := l1 ++ [(g, ob)]) ⟨fun b o hb => ?_, fun b b' o o' g' c1 c2 hb hb' e1 e2 => ?_, hi.fresh⟩ hR, ha.perm (by rw [List.append_assoc]), h0⟩
      · rw [tget_tset] at hb
        by_cases hbn : b = n
        · rw [if_pos hbn] at hb
          injection hb with hb; subst hb
          exact ⟨g, c, ob, hbn ▸ hg, List.mem_append_right _ (List.mem_singleton.2 rfl), hov⟩
        · rw [if_neg hbn] at hb
          obtain ⟨g', c', ob', q1, q2, q3⟩ := hi.obj b o hb
          exact ⟨g', c', ob', q1, List.mem_append_left _ q2, q3⟩
      · rw [tget_tset] at hb hb'
        by_cases hbn : b = n
        · by_cases hbn' : b' = n
          · rw [hbn, hbn']
          · exfalso
            rw [if_neg hbn'] at hb'
            obtain ⟨g2, c2', ob2, q1, q2, _⟩ := hi.obj b' o' hb'
            rw [e2] at q1; injection q1 with q1; injection q1 with q1 _; subst q1
            rw [hbn, hg] at e1; injection e1 with e1; injection e1 with e1 _; subst e1
            exact hn2 _ q2
        · rw [if_neg hbn] at hb
          by_cases hbn' : b' = n
          · exfalso
            obtain ⟨g2, c2', ob2, q1, q2, _⟩ := hi.obj b o hb
            rw [e1] at q1; injection q1 with q1; injection q1 with q1 _; subst q1
            rw [hbn', hg] at e2; injection e2 with e2; injection e2 with e2 _; subst e2
            exact hn2 _ q2
          · rw [if_neg hbn'] at hb'
            exact hi.inj b b' o o' g' c1 c2 hb hb' e1 e2

/-- What an op comes to that makes a block, whatever the heap. -/
theorem mk_ok (hX : XOk X GK) (hE : EnvR γ ρ a) (ha : isAlloc o.op = true) {v : AV} {h1 : Hp} (hr : stepO X ρ h o = .eff v h1) :
    ∃ (ao : AO) (c : Nat) (ob : Obj) (u : Nat → Value), h1 = newB h ao ∧ (∀ tr, stepO X ρ ⟨tr, h.next⟩ o = .eff v (newB ⟨tr, h.next⟩ ao)) ∧ (∀ γ', Le γ γ' → OV γ' c ao ob) ∧ (∀ γ' g, γ' h.next = some (g, c) → IV γ' v (u g)) ∧
      (∀ w, (execOp a.eval o).run X.P w = .ok (.value (u w.heap.size)) { w with heap := w.heap.push ob }) := by
  unfold stepO at hr ⊢
  cases ho : o.op with
  | alloc t =>
    rw [ho] at hr
    simp only at hr ⊢
    unfold oAlloc at hr ⊢
    split at hr
    · rename_i ti hti
      injection hr with e1 e2; subst e1; subst e2
      have hok := hX.tt t ti hti
      refine ⟨_, 0, .cells ti.zero.cells.toList.toArray t, fun g => .pointer (some ⟨g, 0, none⟩), rfl, fun tr => ?_, fun γ' _ => ov_cells (iv_cellsA (iv_v.2 rfl)), fun γ' g hg => by simp only [IV]; exact ⟨g, 0, hg, rfl⟩, fun w => ?_⟩
      · simp only
      · simp [execOp, ho, Instr.alloc, run_zero' hok, newVar, newRow]
    · cases hr
  | buildSlice t len ps =>
    rw [ho] at hr
    simp only at hr ⊢
    unfold oBuildSlice at hr ⊢
    split at hr
    · rename_i ei hei
      obtain ⟨e, hu, ht⟩ := elemTI_ok hX hei
      split at hr
      · rename_i vs hvs
        split at hr
        · rename_i hle'
          have hle : len * ei.sz ≤ 16777216 := Nat.le_of_ble_eq_true hle'
          split at hr
          · rename_i cs hcs
            injection hr with e1 e2; subst e1; subst e2
            have hz0 : IVL γ (cellsA (.v ei.zero)) ei.zero.cells.toList := iv_cellsA (iv_v.2 rfl)
            obtain ⟨us, hu1, hu2⟩ := fill_ok (place' := fun i => some (i * ei.sz, ei.sz)) (fun i q hq => hq) (zip_pv hE hvs) (repZ_ok hz0 len) hcs
            refine ⟨_, 0, .cells us.toArray e, fun g => .slice (some ⟨g, 0, none⟩) len len, rfl, fun tr => ?_, fun γ' hle => ov_cells (hu2.mono hle), fun γ' g hg => by simp only [IV]; exact ⟨g, 0, hg, by simp [capOf]⟩, fun w => ?_⟩
            · simp only
            · have hparts : (ps.map fun (x : Nat × Operand) => (x.1, a.eval x.2)).toList = ps.toList.map fun (x : Nat × Operand) => (x.1, a.eval x.2) := by rw [Array.toList_map]
              have hn : ¬ (len * ei.sz > 2 ^ 24) := by omega
              by_cases h0 : len * ei.sz = 0
              · have hnil : (List.replicate len ei.zero.cells.toList).flatten = [] := by
                  apply List.eq_nil_of_length_eq_zero
                  rw [List.length_flatten, List.map_replicate, List.sum_replicate_nat]
                  have : ei.zero.cells.toList.length = ei.sz := by rw [Array.length_toList]; exact ht.zs
                  rw [this]; exact h0
                rw [hnil] at hu1
                simp only [execOp, ho, Instr.buildSlice, Sem.run_bind, run_underlying hu, Result.andThen, run_sizeOf' ht, if_neg hn, if_pos h0, hparts]
                have hr0 : Array.range 0 = #[] := rfl
                have hu1' : Instr.fill (fun i => some (i * ei.sz, ei.sz)) #[] (ps.toList.map fun (x : Nat × Operand) => (x.1, a.eval x.2)) = some us.toArray := by simpa using hu1
                simp [h0, hr0, hu1', newRow]
              · rw [← range_zeros ht.zs] at hu1
                simp only [execOp, ho, Instr.buildSlice, Sem.run_bind, run_underlying hu, Result.andThen, run_sizeOf' ht, if_neg hn, if_neg h0, hparts]
                simp [run_zero' ht, hu1, newRow]
          · cases hr
        · cases hr
      · cases hr
    · cases hr
  | _ => rw [ho] at ha; cases ha
end
end Go.EV
