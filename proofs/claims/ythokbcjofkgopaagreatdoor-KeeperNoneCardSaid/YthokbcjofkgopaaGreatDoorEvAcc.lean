/-
  Reading and writing cells of the runner's blocks.
-/
import Derived.Test.YthokbcjofkgopaaGreatDoorEvRel
import Derived.Deep.AppendSrc
namespace Go.EV
open Go Go.HL

theorem setCells_heap (g : Nat) : ∀ (vs : List Value) (off : Nat) (w : World) (cur : Array Value) (e : TypeId) (fr : Nat × Nat), w.heap[g]? = some (.cells cur e fr) → off + vs.length ≤ cur.size →
    (w.setCells g off vs).heap[g]? = some (.cells (cur.toList.take off ++ (vs ++ cur.toList.drop (off + vs.length))).toArray e fr) ∧ (∀ k, k ≠ g → (w.setCells g off vs).heap[k]? = w.heap[k]?) ∧ Same0 w (w.setCells g off vs)
  | [], off, w, cur, e, fr, hg, hl => by
    refine ⟨?_, fun _ _ => rfl, rfl, rfl, rfl⟩
    simp [World.setCells, hg]
  | v :: vs, off, w, cur, e, fr, hg, hl => by
    simp only [List.length_cons] at hl
    have hg1 : (w.setCell ⟨g, off, none⟩ v).heap[g]? = some (.cells (cur.setIfInBounds off v) e fr) := by
      simp [World.setCell, Array.getElem?_modify, hg]
    obtain ⟨h1, h2, h3⟩ := setCells_heap g vs (off + 1) (w.setCell ⟨g, off, none⟩ v) _ e fr hg1 (by simp; omega)
    refine ⟨?_, fun k hk => ?_, ⟨h3.1, h3.2.1, h3.2.2⟩⟩
    · rw [World.setCells, h1]
      congr 2
      apply Array.ext'
      simp only [Array.toList_setIfInBounds]
      have hlt : off < cur.toList.length := by simp; omega
      have e0 : cur.toList.set off v = cur.toList.take off ++ v :: cur.toList.drop (off + 1) := by rw [List.set_eq_take_append_cons_drop, if_pos hlt]
      have e1 : (cur.toList.take off).length = off := by rw [List.length_take]; omega
      have e2 : (cur.toList.set off v).take (off + 1) = cur.toList.take off ++ [v] := by
        rw [e0, List.take_append, e1, List.take_of_length_le (by rw [e1]; omega)]
        simp
      have e3 : (cur.toList.set off v).drop (off + 1 + vs.length) = cur.toList.drop (off + (vs.length + 1)) := by
        rw [e0, List.drop_append, e1, List.drop_of_length_le (by rw [e1]; omega)]
        have : off + 1 + vs.length - off = vs.length + 1 := by omega
        rw [this]
        simp only [List.drop_succ_cons, List.nil_append, List.drop_drop]
        congr 1; omega
      rw [e2, e3]
      simp
    · rw [World.setCells, h2 k hk]
      simp only [World.setCell, Array.getElem?_modify]
      rw [if_neg (by simpa using (Ne.symm hk))]

section
variable {K : List KP} {M : List Own} {w0 w w' : World} {γ : Va} {h h' : Hp}

theorem sub_eq {l cs : List AV} {off n : Nat} (hs : sub l off n = some cs) : off + n ≤ l.length ∧ cs = (l.drop off).take n := by
  unfold sub at hs
  cases hb : Nat.ble (Nat.add off n) l.length with
  | true => rw [hb] at hs; injection hs with hs; exact ⟨Nat.le_of_ble_eq_true hb, hs.symm⟩
  | false => rw [hb] at hs; cases hs

/-- The cells of a block, as far as the runner knows them. -/
theorem blk {b : Nat} {o : AO} {l : List AV} (hb : tget h.tr b = some o) (hl : cellsOf? o = some l) (hs : St ⟨K, hO γ h :: M⟩ w0 w) :
    ∃ g c us rest e fr, γ b = some (g, c) ∧ w.heap[g]? = some (.cells (us ++ rest).toArray e fr) ∧ IVL γ l us ∧ frK fr (us ++ rest).length ∧
      (∀ l' us', us'.length = us.length → IVL γ l' us' → OV γ c (setCells o l') (.cells (us' ++ rest).toArray e fr)) ∧ (o = .cells l → rest = []) ∧ (∀ sz, o = .rowu sz l → (us ++ rest).length = c * sz) := by
  obtain ⟨g, c, ob, h1, h2, h3⟩ := st_get hs hb
  cases o with
  | cells l0 =>
    simp only [cellsOf?] at hl; injection hl with hl; subst hl
    obtain ⟨us, e, fr, hv, rfl, hf⟩ := h3
    refine ⟨g, c, us, [], e, fr, h1, by simpa using h2, hv, by simpa using hf, fun l' us' hle hv' => ⟨us', e, fr, hv', by simp, by rw [hle]; exact hf⟩, fun _ => rfl, fun _ hx => by cases hx⟩
  | rowu sz l0 =>
    simp only [cellsOf?] at hl; injection hl with hl; subst hl
    obtain ⟨us, rest, e, fr, hv, rfl, hc, hf⟩ := h3
    refine ⟨g, c, us, rest, e, fr, h1, h2, hv, hf, fun l' us' hle hv' => ⟨us', rest, e, fr, hv', rfl, ?_, ?_⟩, (by intro hx; cases hx), (by intro s hx; injection hx with hx _; subst hx; exact hc)⟩
    · rw [← hc]; simp [hle]
    · have : (us' ++ rest).length = (us ++ rest).length := by simp [hle]
      rw [this]; exact hf
  | map es => simp [cellsOf?] at hl

theorem rd_blk {b off n : Nat} {cs : List AV} (hr : rd h b off n = some cs) : ∃ o l, tget h.tr b = some o ∧ cellsOf? o = some l ∧ off + n ≤ l.length ∧ cs = (l.drop off).take n := by
  unfold rd at hr
  cases hb : tget h.tr b with
  | none => rw [hb] at hr; cases hr
  | some o =>
    rw [hb] at hr
    cases o with
    | cells l => obtain ⟨h1, h2⟩ := sub_eq hr; exact ⟨_, l, rfl, rfl, h1, h2⟩
    | rowu sz l => obtain ⟨h1, h2⟩ := sub_eq hr; exact ⟨_, l, rfl, rfl, h1, h2⟩
    | map es => cases hr

theorem rd_ok {b off n : Nat} {cs : List AV} (hr : rd h b off n = some cs) (hs : St ⟨K, hO γ h :: M⟩ w0 w) :
    ∃ g c us, γ b = some (g, c) ∧ IVL γ cs us ∧ us.length = n ∧ (∀ j u, us[j]? = some u → w.cell? ⟨g, off + j, none⟩ = some u) := by
  obtain ⟨o, l, hb, hl, hle, rfl⟩ := rd_blk hr
  obtain ⟨g, c, us, rest, e, fr, h1, h2, h3, _⟩ := blk hb hl hs
  have hlen := h3.len
  refine ⟨g, c, (us.drop off).take n, h1, (h3.drop off).take n, by simp; omega, fun j u hj => ?_⟩
  have hjn : j < n := by
    rcases Nat.lt_or_ge j n with h' | h'
    · exact h'
    · rw [List.getElem?_eq_none (by simp; omega)] at hj; cases hj
  rw [List.getElem?_take_of_lt hjn, List.getElem?_drop] at hj
  simp only [World.cell?, h2, Option.isSome_none, Bool.false_eq_true, if_false]
  rw [List.getElem?_toArray, List.getElem?_append_left (by omega)]
  exact hj

theorem wr_ok {b off : Nat} {vs : List AV} {us : List Value} (hw : wr h b off vs = some h') (hv : IVL γ vs us) (hs : St ⟨K, hO γ h :: M⟩ w0 w) :
    ∃ g c, γ b = some (g, c) ∧ (∀ j, j < us.length → (w.cell? ⟨g, off + j, none⟩).isSome = true) ∧ (∀ j, j < us.length → w.frozen? ⟨g, off + j, none⟩ = false) ∧ (∀ u ∈ us, u.oneCell' = true) ∧ h'.next = h.next ∧
      St ⟨K, hO γ h' :: M⟩ w0 (w.setCells g off us) := by
  unfold wr at hw
  cases hb : tget h.tr b with
  | none => rw [hb] at hw; cases hw
  | some o =>
    rw [hb] at hw
    simp only at hw
    cases hl : cellsOf? o with
    | none => rw [hl] at hw; cases hw
    | some l =>
      rw [hl] at hw
      simp only at hw
      cases hc : Nat.ble (Nat.add off vs.length) l.length && vs.all oneA with
      | false => rw [hc] at hw; cases hw
      | true =>
        rw [hc] at hw
        injection hw with hw; subst hw
        rw [Bool.and_eq_true] at hc
        have hle : off + vs.length ≤ l.length := Nat.le_of_ble_eq_true hc.1
        obtain ⟨g, c, us0, rest, e, fr, h1, h2, h3, hf, hov, _⟩ := blk hb hl hs
        have hlen := h3.len
        have hvl := hv.len
        obtain ⟨k1, k2, k3⟩ := setCells_heap g us off w _ e fr h2 (by simp; omega)
        refine ⟨g, c, h1, fun j hj => ?_, fun j hj => ?_, hv.one hc.2, rfl, ?_⟩
        · simp only [World.cell?, h2, Option.isSome_none, Bool.false_eq_true, if_false]
          rw [List.getElem?_toArray, List.getElem?_append_left (by omega), List.getElem?_eq_getElem (by omega)]
          rfl
        · simp only [World.frozen?, h2]
          exact hf.not (by simp; omega)
        · refine st_upd hs hb h1 (hov (wrL l off vs) (us0.take off ++ (us ++ us0.drop (off + us.length))) (by simp; omega) ?_) k2 ?_ k3
          · unfold wrL
            have := (h3.drop (off + us.length))
            refine IVL.append (IVL.append ?_ hv) (h3.take off)
            rw [← hvl]; exact this
          · rw [k1]
            congr 2
            apply Array.ext'
            simp only
            rw [List.take_append_of_le_length (by omega), List.drop_append_of_le_length (by omega)]
            simp [List.append_assoc]

/-- A grown row has room for what is known of it. -/
theorem known_le {b sz n g c : Nat} (hs : St ⟨K, hO γ h :: M⟩ w0 w) (hg : γ b = some (g, c)) (h0 : 0 < sz) (hk : n * sz ≤ known h b sz) : n ≤ c := by
  unfold known at hk
  split at hk
  · rename_i s l hb
    split at hk
    · rename_i hss
      have hss : s = sz := Nat.eq_of_beq_eq_true hss
      subst hss
      obtain ⟨g', c', us, rest, e, fr, h1, h2, h3, _, _, _, hc⟩ := blk hb rfl hs
      rw [hg] at h1; injection h1 with h1; injection h1 with _ h1; subst h1
      have := hc s rfl
      have hl := h3.len
      have : n * s ≤ c * s := by rw [← this, List.length_append]; omega
      exact Nat.le_of_mul_le_mul_right this h0
    · have : n = 0 := by
        rcases Nat.eq_zero_or_pos n with h | h
        · exact h
        · have := Nat.mul_pos h h0; omega
      omega
  · have : n = 0 := by
      rcases Nat.eq_zero_or_pos n with h | h
      · exact h
      · have := Nat.mul_pos h h0; omega
    omega
theorem known_lt {b sz n g c : Nat} (hs : St ⟨K, hO γ h :: M⟩ w0 w) (hg : γ b = some (g, c)) (h0 : 0 < sz) (hk : n * sz < known h b sz) : n < c := by
  unfold known at hk
  split at hk
  · rename_i s l hb
    split at hk
    · rename_i hss
      have hss : s = sz := Nat.eq_of_beq_eq_true hss
      subst hss
      obtain ⟨g', c', us, rest, e, fr, h1, h2, h3, _, _, _, hc⟩ := blk hb rfl hs
      rw [hg] at h1; injection h1 with h1; injection h1 with _ h1; subst h1
      have := hc s rfl
      have hl := h3.len
      have : n * s < c * s := by rw [← this, List.length_append]; omega
      exact Nat.lt_of_mul_lt_mul_right this
    · omega
  · omega
end
end Go.EV
