/-
  Each step of the runner is the model's: conversions, calls, all together.
-/
import Derived.Test.YthokbcjofkgopaaGreatDoorEvStp5
import Derived.Lib.ConvBytes
namespace Go.EV
open Go Go.HL

section
variable {X : Sx} {GK K : List KP} {M : List Own} {γ : Va} {ρ : Rho} {h : Hp} {w0 w : World} {a : Act} {o : Oper}

theorem freeze_heap {g off : Nat} {arr : Array Value} {e : TypeId} {fr : Nat × Nat} (hw : w.heap[g]? = some (.cells arr e fr)) (hf : frK fr arr.size) :
    ∃ w' fr', (markStringish ⟨g, off, none⟩).run X.P w = .ok () w' ∧ w'.heap[g]? = some (.cells arr e fr') ∧ frK fr' arr.size ∧ (∀ k, k ≠ g → w'.heap[k]? = w.heap[k]?) ∧ Same0 w w' := by
  refine ⟨w.freeze ⟨g, arr.size, none⟩ 1, if fr.1 == fr.2 then (arr.size, arr.size + 1) else (min fr.1 arr.size, max fr.2 (arr.size + 1)), ?_, ?_, ?_, fun k hk => ?_, ?_⟩
  · simp [markStringish, World.shape?, hw, shape, freeze, Sem.run]
  · simp only [World.freeze]
    rw [if_neg (by decide)]
    simp only [Array.getElem?_modify, if_true, hw, Option.map_some]
  · rcases hf with hf | hf
    · rw [hf]; simp; exact .inr (Nat.le_refl _)
    · by_cases hh : fr.1 = fr.2
      · rw [hh]; simp; exact .inr (Nat.le_refl _)
      · have : (fr.1 == fr.2) = false := by simpa using hh
        rw [this]
        exact .inr (by simp; omega)
  · simp only [World.freeze]
    rw [if_neg (by decide)]
    simp only [Array.getElem?_modify]
    rw [if_neg (Ne.symm hk)]
  · unfold World.freeze
    rw [if_neg (by decide)]
    exact ⟨rfl, rfl, rfl⟩
theorem refr_ok (hs : St ⟨K, hO γ h :: M⟩ w0 w) {b : Nat} {v : AV} {u : Value} (hv : IV γ v u) (hr : ∀ g c arr e fr, γ b = some (g, c) → w.heap[g]? = some (.cells arr e fr) → frK fr arr.size →
      ∃ w' fr', (execOp a.eval o).run X.P w = .ok (.value u) w' ∧ w'.heap[g]? = some (.cells arr e fr') ∧ frK fr' arr.size ∧ (∀ k, k ≠ g → w'.heap[k]? = w.heap[k]?) ∧ Same0 w w') :
    Good X.P K M γ h w0 a w o (refr h b v (tget h.tr b)) := by
  unfold refr
  split
  · rename_i l hb
    obtain ⟨g, c, ob, hg, hw, us, e, fr, h1, rfl, h2⟩ := st_get hs hb
    obtain ⟨w', fr', r1, r2, r3, r4, r5⟩ := hr g c _ e fr hg hw (by simpa using h2)
    exact eff0 r1 (.inl rfl) hv rfl (st_upd hs hb hg ⟨us, e, fr', h1, rfl, by simpa using r3⟩ r4 r2 r5)
  · rename_i s l hb
    obtain ⟨g, c, ob, hg, hw, us, rest, e, fr, h1, rfl, h2, h3⟩ := st_get hs hb
    obtain ⟨w', fr', r1, r2, r3, r4, r5⟩ := hr g c _ e fr hg hw (by simpa using h3)
    exact eff0 r1 (.inl rfl) hv rfl (st_upd hs hb hg ⟨us, rest, e, fr', h1, rfl, h2, by simpa using r3⟩ r4 r2 r5)
  · trivial

theorem oConvert_ok (hX : XOk X GK) (hE : EnvR γ ρ a) (hs : St ⟨K, hO γ h :: M⟩ w0 w) {s d : TypeId} {x : Operand} (ho : o.op = .convert s d x) : Good X.P K M γ h w0 a w o (oConvert X ρ h o s d x) := by
  unfold oConvert
  split
  · rename_i k0 n hx
    split
    · rename_i k hk
      split
      · rename_i k1 hk1
        have hd := intT_ok hX hk
        have hs' := intT_ok hX hk1
        refine ⟨.int k (k.wrap n), ?_, by rw [wrapF_eq]; exact iv_v.2 rfl⟩
        simp [execOp, ho, ev_v hE hx, convert, run_underlying hd, run_underlying hs', Conv.intToInt]
      · trivial
    · exact gen_ok hE (by rw [ho]; trivial)
  · rename_i b e0 sz len cap hx
    split
    · rename_i hd
      exact cvStr_ok hX hE hs ho hx hd
    · unfold cvOther
      cases hb : Nat.beq s d && isByteT X d with
      | false => trivial
      | true =>
        simp only
        rw [Bool.and_eq_true] at hb
        have hsd : s = d := Nat.eq_of_beq_eq_true hb.1
        subst hsd
        obtain ⟨e, ei, hu, hue, _⟩ := isByteT_ok hX hb.2
        have h1 := ev_ok hE hx
        have h0 := h1
        simp only [IV] at h1
        obtain ⟨g, c, hg, he⟩ := h1
        refine refr_ok (u := a.eval x) hs h0 fun g' c' arr e' fr hg' hw hf => ?_
        rw [hg] at hg'; injection hg' with hg'; injection hg' with hg' _; subst hg'
        obtain ⟨w', fr', r1, r2, r3, r4, r5⟩ := freeze_heap (X := X) (off := e0 * sz) hw hf
        refine ⟨w', fr', ?_, r2, r3, r4, r5⟩
        simp [execOp, ho, he, convert, run_underlying hu, run_underlying hue, r1]
  · rename_i b hx
    split
    · exact gen_ok hE (by rw [ho]; trivial)
    · unfold cvBytes
      cases hb : isByteT X d && isStrT X s && Nat.ble b.data.toList.length 16777216 with
      | false => trivial
      | true =>
        simp only
        obtain ⟨q1, q2, q3⟩ := bool3 hb
        obtain ⟨e, ei, hu, hue, _⟩ := isByteT_ok hX q1
        have hus := isStrT_ok hX q2
        have hrun := Lib.run_convert_string_bytes (P := X.P) w s d e b hus hu hue
        have hl : b.data.toList.length = b.size := by rw [Array.length_toList]; rfl
        have hge := grownCap_ge w b.size 0 e
        have hheap : (Lib.bytesWorld w e b).heap = w.heap.push (.cells (Lib.bytesCells w e b) e ((Lib.bytesCells w e b).size, (Lib.bytesCells w e b).size + 1)) := by
          apply Array.ext_getElem?
          intro i
          simp only [Lib.bytesWorld, World.freeze, World.alloc, World.drew, Nat.one_ne_zero, if_false, Array.getElem?_modify, Array.getElem?_push]
          by_cases hi : w.heap.size = i
          · subst hi; simp
          · simp [hi, Ne.symm hi]
        rw [hl]
        refine new_ok' (c := grownCap w b.size 0 e) (ob := .cells (Lib.bytesCells w e b) e ((Lib.bytesCells w e b).size, (Lib.bytesCells w e b).size + 1)) (w' := Lib.bytesWorld w e b) (u := .slice (some ⟨w.heap.size, 0, none⟩) b.size (grownCap w b.size 0 e)) hs (fun γ' hle => ?_) (fun γ' hg => ?_) ?_ hheap ⟨rfl, rfl, rfl⟩
        · have hcl : (Lib.bytesCells w e b).size = (byteCells b ++ List.replicate (grownCap w b.size 0 e - b.size) (Value.int .u8 0)).length := by
            rw [List.length_append, byteCells_length, List.length_replicate]
            simp [Lib.bytesCells]
          refine ⟨byteCells b, List.replicate (grownCap w b.size 0 e - b.size) (.int .u8 0), e, ((Lib.bytesCells w e b).size, (Lib.bytesCells w e b).size + 1), byteV_ok b, ?_, ?_, .inr ?_⟩
          · congr 1
            apply Array.ext'
            simp [Lib.bytesCells, byteCells]
          · rw [List.length_append, byteCells_length, List.length_replicate]; omega
          · rw [hcl]; exact Nat.le_refl _
        · simp only [IV]; exact ⟨_, _, hg, by simp [capOf]⟩
        · simp [execOp, ho, ev_v hE hx, hrun]
  · exact gen_ok hE (by rw [ho]; trivial)

theorem oCall_ok (hX : XOk X GK) (hE : EnvR γ ρ a) (hs : St ⟨K, hO γ h :: M⟩ w0 w) {c : Call} (ho : o.op = .call c) : Good X.P K M γ h w0 a w o (oCall X ρ h o c) := by
  unfold oCall
  split
  · rename_i f hc
    unfold oFn
    split
    · rename_i args hargs
      have h1 := evL_ok hE hargs
      have h2 : (c.args.map a.eval) = (c.args.toList.map a.eval).toArray := by apply Array.ext'; simp
      split
      · rename_i f' p q hf
        have hf := ev_ok hE hf
        simp only [IV] at hf
        obtain ⟨us, ws, hu, hw, he⟩ := hf
        refine ⟨us ++ (c.args.toList.map a.eval ++ ws), ?_, IVL.append (IVL.append hw h1) hu⟩
        simp only [execOp, ho, resolve, hc, he, Deferred.ofValue, Sem.run_bind, Sem.run_pure, Result.andThen, invoke, h2]
        simp
      · rename_i f' p q hf
        have he := ev_v hE hf
        refine ⟨p.toList ++ (c.args.toList.map a.eval ++ q.toList), ?_, IVL.append (IVL.append (ivl_map_v _) h1) (ivl_map_v _)⟩
        simp only [execOp, ho, resolve, hc, he, Deferred.ofValue, Sem.run_bind, Sem.run_pure, Result.andThen, invoke, h2]
        have : p ++ ((c.args.toList.map a.eval).toArray ++ q) = (p.toList ++ (c.args.toList.map a.eval ++ q.toList)).toArray := by apply Array.ext'; simp
        rw [← this]; simp
      · trivial
    · trivial
  · rename_i b hc
    unfold oBuiltin
    cases b with
    | len => exact oLen_ok hX hE hs ho hc
    | cap => exact oCap_ok hX hE ho hc
    | min => exact gen_ok hE (by rw [ho]; exact ⟨_, hc⟩)
    | max => exact gen_ok hE (by rw [ho]; exact ⟨_, hc⟩)
    | append => exact oAppend_ok hX hE hs ho hc
    | copy => exact oCopy_ok hX hE hs ho hc
    | clear => exact oClear_ok hX hE hs ho hc
    | delete => exact oDelete_ok hX hE hs ho hc
    | _ => trivial
  · trivial

/-- EACH STEP OF THE RUNNER IS THE MODEL's. -/
theorem step_ok (hX : XOk X GK) (hG : ∀ k ∈ GK, k ∈ K) (hE : EnvR γ ρ a) (hs : St ⟨K, hO γ h :: M⟩ w0 w) : Good X.P K M γ h w0 a w o (stepO X ρ h o) := by
  unfold stepO
  cases ho : o.op with
  | move x => exact oMove_ok hE (.inl ho)
  | assign x => exact oMove_ok hE (.inr ho)
  | pick c x y => exact oPick_ok hE ho
  | alloc t => exact oAlloc_ok hX hs ho
  | box t x => exact oBox_ok hE hs ho
  | build t ps => exact oBuild_ok hX hE ho
  | buildSlice t n ps => exact oBuildSlice_ok hX hE hs ho
  | load t x => exact oLoad_ok hX hG hE hs ho
  | store t x y => exact oStore_ok hX hE hs ho
  | nilCheck x => exact oNil_ok hE ho
  | binOp op t x y t' => exact oBin_ok hX hE ho
  | unOp op t x => exact gen_ok hE (by rw [ho]; trivial)
  | convert s d x => exact oConvert_ok hX hE hs ho
  | makeInterface t x => exact oMakeIface_ok hX hE ho
  | makeFunc fn f c => exact oMakeFunc_ok hE ho
  | makeMap t r => exact oMakeMap_ok hs ho
  | makeSlice t l c => exact oMakeSlice_ok hX hE hs ho
  | slice t x lo hi mx => exact oSlice_ok hX hE hs ho
  | fieldAddr t x i => exact oFieldAddr_ok hX hE ho
  | field t x i => exact oField_ok hX hE ho
  | indexAddr t x y => exact oIndexAddr_ok hX hE ho
  | index t x y => exact gen_ok hE (by rw [ho]; trivial)
  | lookup t x y ok => exact oLookup_ok hX hE hs ho
  | mapUpdate t x y z => exact oMapUpdate_ok hX hE hs ho
  | extract x i => exact oExtract_ok hE ho
  | call c => exact oCall_ok hX hE hs ho
  | _ => trivial
end
end Go.EV
