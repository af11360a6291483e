/-
  What is known of memory, turned by what a world's steps do: a new block, a store, a draw, a block that is written no more.
-/
import Derived.Test.YthokbcjofkgopaaGreatDoorHlCore
namespace Go.HL
open Go

def frOk (fr : Nat × Nat) (n : Nat) : Prop := ∀ i, i ≤ n → (decide (fr.1 ≤ i) && decide (i < fr.2)) = false

/-- A block of cells, owned whole. -/
def cellsO (g : Nat) (cs : List Value) (e : TypeId) : Own :=
  ⟨fun _ l => ∃ fr, l = [(g, .cells cs.toArray e fr)] ∧ frOk fr cs.length, fun _ _ _ _ h => h⟩
/-- A map's block, owned whole. -/
def mapO (g : Nat) (es : List MapEntry) (clock : Nat) : Own :=
  ⟨fun _ l => l = [(g, .map es.toArray clock)], fun _ _ _ _ h => h⟩

theorem Agree.upd {H : Heap} {g : Nat} {o o' : Obj} {l : List (Nat × Obj)} {w w' : World} (h : Agree H ((g, o) :: l) w)
    (hsame : ∀ b, b ≠ g → w'.heap[b]? = w.heap[b]?) (hg : w'.heap[g]? = some o') : Agree H ((g, o') :: l) w' := by
  obtain ⟨h1, h2, h3⟩ := h
  have hHg : H g = none := (h2 (g, o) (.head _)).2
  have hnd : g ∉ l.map (·.1) ∧ (l.map (·.1)).Nodup := by simpa using h3
  refine ⟨fun b ob hb => ?_, fun x hx => ?_, ?_⟩
  · have : b ≠ g := by rintro rfl; rw [hHg] at hb; cases hb
    rw [hsame b this]; exact h1 b ob hb
  · cases hx with
    | head => exact ⟨hg, hHg⟩
    | tail _ hx =>
      have hne : x.1 ≠ g := fun e => hnd.1 (e ▸ List.mem_map_of_mem hx)
      have := h2 x (.tail _ hx)
      exact ⟨by rw [hsame _ hne]; exact this.1, this.2⟩
  · simpa using hnd

theorem Agree.lt {H : Heap} {l : List (Nat × Obj)} {w : World} (h : Agree H l w) : (∀ b o, H b = some o → b < w.heap.size) ∧ ∀ x ∈ l, x.1 < w.heap.size := by
  refine ⟨fun b o hb => ?_, fun x hx => ?_⟩
  · have := h.1 b o hb
    rcases Nat.lt_or_ge b w.heap.size with h' | h'
    · exact h'
    · rw [Array.getElem?_eq_none h'] at this; cases this
  · have := (h.2.1 x hx).1
    rcases Nat.lt_or_ge x.1 w.heap.size with h' | h'
    · exact h'
    · rw [Array.getElem?_eq_none h'] at this; cases this

theorem Agree.alloc {H : Heap} {l : List (Nat × Obj)} {w w' : World} {o : Obj} (h : Agree H l w) (hw : w'.heap = w.heap.push o) : Agree H ((w.heap.size, o) :: l) w' := by
  obtain ⟨hl1, hl2⟩ := h.lt
  refine ⟨fun b ob hb => ?_, fun x hx => ?_, ?_⟩
  · have := hl1 b ob hb
    rw [hw, Array.getElem?_push, if_neg (by omega)]; exact h.1 b ob hb
  · cases hx with
    | head =>
      refine ⟨by rw [hw]; simp, ?_⟩
      cases hh : H w.heap.size with
      | none => rfl
      | some o' => exact absurd (hl1 _ _ hh) (by omega)
    | tail _ hx =>
      have := hl2 x hx
      refine ⟨?_, (h.2.1 x hx).2⟩
      rw [hw, Array.getElem?_push, if_neg (by omega)]; exact (h.2.1 x hx).1
  · simp only [List.map_cons, List.nodup_cons]
    refine ⟨fun hm => ?_, h.2.2⟩
    obtain ⟨x, hx, he⟩ := List.mem_map.1 hm
    have := hl2 x hx
    omega

theorem Agree.heap {H : Heap} {l : List (Nat × Obj)} {w w' : World} (h : Agree H l w) (hw : w'.heap = w.heap) : Agree H l w' :=
  ⟨fun b o hb => by rw [hw]; exact h.1 b o hb, fun x hx => by rw [hw]; exact h.2.1 x hx, h.2.2⟩

def Heap.ext (H : Heap) (l : List (Nat × Obj)) : Heap := fun b => match l.lookup b with | some o => some o | none => H b

theorem lookup_mem {l : List (Nat × Obj)} {b : Nat} {o : Obj} (h : l.lookup b = some o) : (b, o) ∈ l := by
  induction l with
  | nil => cases h
  | cons x l ih =>
    obtain ⟨k, v⟩ := x
    simp only [List.lookup] at h
    split at h
    · rename_i hb
      have : b = k := by simpa using hb
      subst this
      injection h with h; subst h; exact .head _
    · exact .tail _ (ih h)

theorem lookup_none {l : List (Nat × Obj)} {b : Nat} (h : l.lookup b = none) : b ∉ l.map (·.1) := by
  induction l with
  | nil => simp
  | cons x l ih =>
    obtain ⟨k, v⟩ := x
    simp only [List.lookup] at h
    split at h
    · cases h
    · rename_i hb
      have : b ≠ k := by simpa using hb
      simp only [List.map_cons, List.mem_cons, not_or]
      exact ⟨this, ih h⟩

theorem Heap.le_ext {H : Heap} {l : List (Nat × Obj)} (h : ∀ x ∈ l, H x.1 = none) : Heap.le H (H.ext l) := by
  intro b o hb
  unfold Heap.ext
  cases hl : l.lookup b with
  | none => exact hb
  | some o' =>
    have := h _ (lookup_mem hl)
    rw [this] at hb; cases hb

theorem Agree.shut {H : Heap} {l1 l2 : List (Nat × Obj)} {w : World} (h : Agree H (l1 ++ l2) w) : Heap.le H (H.ext l1) ∧ Agree (H.ext l1) l2 w := by
  obtain ⟨h1, h2, h3⟩ := h
  rw [List.map_append] at h3
  obtain ⟨n1, n2, n3⟩ := List.nodup_append.1 h3
  refine ⟨Heap.le_ext fun x hx => (h2 x (List.mem_append_left _ hx)).2, fun b o hb => ?_, fun x hx => ?_, n2⟩
  · unfold Heap.ext at hb
    cases hl : l1.lookup b with
    | none => rw [hl] at hb; exact h1 b o hb
    | some o' =>
      rw [hl] at hb
      injection hb with hb; subst hb
      exact (h2 _ (List.mem_append_left _ (lookup_mem hl))).1
  · refine ⟨(h2 x (List.mem_append_right _ hx)).1, ?_⟩
    unfold Heap.ext
    cases hl : l1.lookup x.1 with
    | none => exact (h2 x (List.mem_append_right _ hx)).2
    | some o' =>
      have : x.1 ∈ l1.map (·.1) := by simpa using List.mem_map_of_mem (f := (·.1)) (lookup_mem hl)
      exact absurd rfl (n3 _ this _ (List.mem_map_of_mem hx))

theorem Same0.trans {a b c : World} (h : Same0 a b) (h' : Same0 b c) : Same0 a c :=
  ⟨h'.1.trans h.1, h'.2.1.trans h.2.1, h'.2.2.trans h.2.2⟩

section st
variable {K : List KP} {M R : List Own} {w0 w w' : World}

/-- What is owned and will be written no more becomes a fact for good. -/
theorem St.shut {o : Own} {k : KP} (hs : Sel o M R) (hshut : ∀ H l, Heap.le H (H.ext l) → o.p H l → k.p (H.ext l)) (h : St ⟨K, M⟩ w0 w) : St ⟨k :: K, R⟩ w0 w := by
  obtain ⟨H, l1, l2, hk, ho, hR, ha, h0⟩ := h.focus hs
  obtain ⟨hle, ha'⟩ := ha.shut
  refine ⟨H.ext l1, l2, fun k' hk' => ?_, hR.mono hle, ha', h0⟩
  cases hk' with
  | head => exact hshut _ _ hle ho
  | tail _ hk' => exact k'.mono _ _ hle (hk _ hk')

/-- One more fact that follows from those that are known. -/
theorem St.addK {k : KP} (hf : ∀ H, (∀ k' ∈ K, k'.p H) → k.p H) (h : St ⟨K, M⟩ w0 w) : St ⟨k :: K, M⟩ w0 w := by
  obtain ⟨H, l, hk, hm, ha, h0⟩ := h
  refine ⟨H, l, fun k' hk' => ?_, hm, ha, h0⟩
  cases hk' with
  | head => exact hf H hk
  | tail _ hk' => exact hk _ hk'

/-- What is owned is told otherwise. -/
theorem St.conv {o : Own} {M' : List Own} (hs : Sel o M R) (hf : ∀ H l, o.p H l → ∃ l', Holds H M' l' ∧ l.Perm l') (h : St ⟨K, M⟩ w0 w) : St ⟨K, M' ++ R⟩ w0 w := by
  obtain ⟨H, l1, l2, hk, ho, hR, ha, h0⟩ := h.focus hs
  obtain ⟨l', hM', hp⟩ := hf H l1 ho
  exact ⟨H, l' ++ l2, hk, Holds.append hR hM', ha.perm (hp.append_right _), h0⟩

theorem St.drawn (h : St ⟨K, M⟩ w0 w) (hh : w'.heap = w.heap) (h0' : Same0 w w') : St ⟨K, M⟩ w0 w' := by
  obtain ⟨H, l, hk, hm, ha, h0⟩ := h
  exact ⟨H, l, hk, hm, ha.heap hh, h0.trans h0'⟩

theorem St.alloc (cs : List Value) (e : TypeId) (h : St ⟨K, M⟩ w0 w) : St ⟨K, cellsO w.heap.size cs e :: M⟩ w0 { w with heap := w.heap.push (.cells cs.toArray e) } := by
  obtain ⟨H, l, hk, hm, ha, h0⟩ := h
  exact ⟨H, _, hk, .cons ⟨(0, 0), rfl, fun i _ => by simp⟩ hm, ha.alloc rfl, h0.1, h0.2.1, h0.2.2⟩

theorem St.allocMap (h : St ⟨K, M⟩ w0 w) : St ⟨K, mapO w.heap.size [] 0 :: M⟩ w0 { w with heap := w.heap.push (.map #[] 0) } := by
  obtain ⟨H, l, hk, hm, ha, h0⟩ := h
  exact ⟨H, _, hk, .cons rfl hm, ha.alloc rfl, h0.1, h0.2.1, h0.2.2⟩

theorem St.block {g : Nat} {cs : List Value} {e : TypeId} (hs : Sel (cellsO g cs e) M R) (h : St ⟨K, M⟩ w0 w) :
    ∃ fr, w.heap[g]? = some (.cells cs.toArray e fr) ∧ frOk fr cs.length := by
  obtain ⟨H, l1, l2, hk, ⟨fr, rfl, hfr⟩, hR, ha, h0⟩ := h.focus hs
  exact ⟨fr, (ha.2.1 _ (.head _)).1, hfr⟩

theorem St.cell {g : Nat} {cs : List Value} {e : TypeId} (hs : Sel (cellsO g cs e) M R) (h : St ⟨K, M⟩ w0 w) (i : Nat) : w.cell? ⟨g, i, none⟩ = cs[i]? := by
  obtain ⟨fr, hb, _⟩ := h.block hs
  simp [World.cell?, hb]

theorem St.frozen {g : Nat} {cs : List Value} {e : TypeId} (hs : Sel (cellsO g cs e) M R) (h : St ⟨K, M⟩ w0 w) {i : Nat} (hi : i < cs.length) : w.frozen? ⟨g, i, none⟩ = false := by
  obtain ⟨fr, hb, hf⟩ := h.block hs
  have := hf i (Nat.le_of_lt hi)
  simpa [World.frozen?, hb] using this

theorem St.setCell {g : Nat} {cs : List Value} {e : TypeId} (hs : Sel (cellsO g cs e) M R) (h : St ⟨K, M⟩ w0 w) (i : Nat) (v : Value) :
    St ⟨K, cellsO g (cs.set i v) e :: R⟩ w0 (w.setCell ⟨g, i, none⟩ v) := by
  obtain ⟨H, l1, l2, hk, ⟨fr, rfl, hfr⟩, hR, ha, h0⟩ := h.focus hs
  have hb := (ha.2.1 _ (.head _)).1
  refine ⟨H, [(g, .cells (cs.set i v).toArray e fr)] ++ l2, hk, .cons ⟨fr, rfl, by simpa using hfr⟩ hR, ha.upd (fun b hb => ?_) ?_, h0.1, h0.2.1, h0.2.2⟩
  · simp only [World.setCell, Array.getElem?_modify]
    rw [if_neg (by simpa using (Ne.symm hb))]
  · have : g < w.heap.size := by
      rcases Nat.lt_or_ge g w.heap.size with h' | h'
      · exact h'
      · rw [Array.getElem?_eq_none h'] at hb; cases hb
    simp only [World.setCell, Array.getElem?_modify]
    simp only [if_true]
    rw [hb]
    simp

/-- A row of values laid over a list from a place on. -/
def setL : List Value → Nat → List Value → List Value
  | cs, _, [] => cs
  | cs, j, v :: vs => setL (cs.set j v) (j + 1) vs

theorem length_setL : ∀ (vs cs : List Value) (j : Nat), (setL cs j vs).length = cs.length
  | [], _, _ => rfl
  | v :: vs, cs, j => by simp only [setL]; rw [length_setL vs]; simp

theorem run_stores {P : Program} {g : Nat} {e : TypeId} : ∀ (vs : List Value) (i : Nat) (cs : List Value) (M : List Own) (w : World), Sel (cellsO g cs e) M R → St ⟨K, M⟩ w0 w →
    ∀ o, o + i + vs.length ≤ cs.length → (∀ v ∈ vs, v.oneCell' = true) →
    ∃ w', (storeCells ⟨g, o, none⟩ vs i).run P w = .ok () w' ∧ St ⟨K, cellsO g (setL cs (o + i) vs) e :: R⟩ w0 w'
  | [], i, cs, M, w, hs, h, o, _, _ => ⟨w, rfl, by
      obtain ⟨H, l1, l2, hk, ho, hR, ha, h0⟩ := h.focus hs
      exact ⟨H, _, hk, .cons ho hR, ha, h0⟩⟩
  | v :: vs, i, cs, M, w, hs, h, o, hl, h1 => by
    have hadd : (⟨g, o, none⟩ : Addr).add i = ⟨g, o + i, none⟩ := by unfold Addr.add; split <;> simp_all
    simp only [List.length_cons] at hl
    have hc := h.cell hs (o + i)
    have hlt : o + i < cs.length := by omega
    rw [List.getElem?_eq_getElem hlt] at hc
    have hf := h.frozen hs hlt
    have hset := h.setCell hs (o + i) v
    obtain ⟨w', hrun, hst⟩ := run_stores (P := P) vs (i + 1) (cs.set (o + i) v) _ _ Sel.head hset o (by simp; omega) (fun u hu => h1 u (.tail _ hu))
    refine ⟨w', ?_, by simpa [setL, Nat.add_assoc] using hst⟩
    simp only [storeCells, Sem.run_bind, hadd, run_store P w _ v _ (h1 v (.head _)), hc, hf, Result.andThen]
    simpa using hrun

theorem run_loads {P : Program} {g : Nat} {cs : List Value} {e : TypeId} (hs : Sel (cellsO g cs e) M R) (h : St ⟨K, M⟩ w0 w) {j n : Nat} {vs : List Value} (hv : (cs.drop j).take n = vs) (hn : vs.length = n) :
    (loadCells ⟨g, j, none⟩ n).run P w = .ok vs.toArray w := by
  subst hn
  refine run_loadCells_list w _ vs fun i v hi => ?_
  have hadd : (⟨g, j, none⟩ : Addr).add i = ⟨g, j + i, none⟩ := by unfold Addr.add; split <;> simp_all
  rw [hadd, h.cell hs]
  have hi' : i < vs.length := by
    rcases Nat.lt_or_ge i vs.length with h' | h'
    · exact h'
    · rw [List.getElem?_eq_none h'] at hi; cases hi
  rw [← hv, List.getElem?_take_of_lt hi', List.getElem?_drop] at hi
  exact hi
end st
end Go.HL
