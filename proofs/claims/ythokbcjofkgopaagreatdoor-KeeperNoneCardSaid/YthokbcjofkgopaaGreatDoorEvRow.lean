/-
  From a contract to what a row asks: of the blocks that were there nothing turned.
-/
import Derived.Test.YthokbcjofkgopaaGreatDoorEvTabs
import Derived.ChangeSame
import Derived.RowKit3
namespace Go.EV
open Go Go.HL Go.ChangeShapes Go.WideShapes

/-- The blocks of W are in W' as they were. -/
structure Held (W W' : World) : Prop where
  os : W'.os = W.os
  out : W'.output = W.output
  heap : ∀ (b : Nat) o, W.heap[b]? = some o → W'.heap[b]? = some o

def oldK (W : World) : KP := ⟨fun H => ∀ (b : Nat) o, W.heap[b]? = some o → H b = some o, fun _ _ hle h b o hb => hle _ _ (h b o hb)⟩

theorem fn_calls {P : Program} {f : FuncId} {vs : List Value} {GK : List KP} {u : Value} (h : HL.Fn P f vs ⟨GK, []⟩ (fun v s' => v = u ∧ s' = ⟨GK, []⟩)) (W : World) (hK : ∀ k ∈ GK, k.p (fun b : Nat => W.heap[b]?)) :
    Calls P f vs.toArray W fun e w' => e = .returned u ∧ Held W w' := by
  have hc := h ⟨[oldK W], []⟩ W W ⟨fun b : Nat => W.heap[b]?, [], by
    intro k hk
    rcases List.mem_append.1 hk with hk | hk
    · exact hK k hk
    · obtain rfl := List.mem_singleton.1 hk
      exact fun b o hb => hb, Holds.nil, ⟨fun _ _ h => h, fun _ h => (by cases h), List.nodup_nil⟩, rfl, rfl, rfl⟩
  refine hc.mono fun e w' hR => ?_
  obtain ⟨v, s', rfl, ⟨rfl, rfl⟩, hst⟩ := hR
  obtain ⟨H, l, hk, _, ha, ho, _, hout⟩ := hst
  have hH : (oldK W).p H := hk _ (List.mem_append_right _ (List.mem_singleton.2 rfl))
  exact ⟨rfl, ho, hout, fun b o hb => ha.1 b o (hH b o hb)⟩

theorem Held.kept {W W' : World} (h : Held W W') (may : MemPlace → Prop) : W.keptBut W' may := by
  refine ⟨h.os, h.out, fun i hi => ?_⟩
  have h1 : W.heap[i]? = some W.heap[i] := Array.getElem?_eq_getElem hi
  have h2 := h.heap _ _ h1
  rw [h1, h2]
  cases W.heap[i] with
  | cells c t fr => exact ⟨rfl, rfl, rfl, fun _ _ => rfl⟩
  | map es clock => exact Or.inr ⟨rfl, rfl⟩
  | _ => rfl

theorem Held.frozen {W W' : World} (h : Held W W') (b off : Nat) (hb : b < W.heap.size) : W'.frozen? ⟨b, off, none⟩ = W.frozen? ⟨b, off, none⟩ := by
  have h1 : W.heap[b]? = some W.heap[b] := Array.getElem?_eq_getElem hb
  have h2 := h.heap _ _ h1
  simp only [World.frozen?, h1, h2]

section
variable {H : Type} {enc : TypeId × Value → H} {P : Program}
theorem post_of_held {f : Func} {s : ChangeSpec} {apart fresh handsOn again : Bool} {W W' : World} {args : Array Value} {v : Value} {ds gs : List (DataW H)} {before pa pv : List MemPlace}
    (hW : DataW.Whole enc P f.params.toList s.vars apart W args.toList ds gs before)
    (hres : ∀ (b : Nat) (sp : Nat → Bool) (hd : Bool), DataW.TrodAll enc P W' b sp hd f.resultTypes.toList (v.resultList f.resultTypes.size) (s.fn H (ds ++ gs)).results [])
    (hargs : ∀ sp : Nat → Bool, (∀ p ∈ before, sp p.block = true) → DataW.TrodAll enc P W' 0 sp true f.params.toList args.toList (s.fn H (ds ++ gs)).args pa)
    (hvars : ∀ sp : Nat → Bool, (∀ p ∈ before, sp p.block = true) → DataW.TrodVars enc P W' sp s.vars (s.fn H (ds ++ gs)).vars pv)
    (hps : before = pa ++ pv) (hk : Held W W')
    (hok : ∀ (j : Nat) (t : TypeId) (r : Value), f.resultTypes[j]? = some t → (v.resultList f.resultTypes.size)[j]? = some r → Value.okWide P W' .any 0 t r) :
    s.post enc P f apart fresh handsOn again W args v W' := by
  have hold : ∀ p ∈ before, (fun b => decide (b < W.heap.size)) p.block = true := fun p hp => by simpa using hW.lt p hp
  have hlt := hW.lt
  refine ⟨ds, gs, before, [], pa, pv, hW, hres _ _ _, hargs _ hold, hvars _ hold, hk.kept _, fun _ => ?_⟩
  obtain ⟨_, _, _, _, _, hz, hn⟩ := hW
  refine ⟨hok, _, _, ([] ++ pa) ++ pv, ⟨[] ++ pa, pv, trodAll_append (hargs _ (fun _ _ => rfl)) (hres _ _ _), hvars _ (fun _ _ => rfl), rfl, ?_, ?_⟩, ?_⟩
  · intro b off hp
    have hb : MemPlace.cell b off ∈ before := by rw [hps]; simpa using hp
    rw [hk.frozen b off (hlt _ hb)]
    exact hz b off hb
  · intro ha
    have := hn ha
    rw [hps] at this
    simpa using this
  · intro p hp _
    rw [hps]
    simpa using hp
end
end Go.EV
