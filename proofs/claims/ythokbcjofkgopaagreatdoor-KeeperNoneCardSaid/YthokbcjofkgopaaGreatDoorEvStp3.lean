/-
  Each step of the runner is the model's: reading, converting.
-/
import Derived.Test.YthokbcjofkgopaaGreatDoorEvStp2
import Derived.MapKept
import Derived.Laws.BytesString
import Derived.Lib.ConvBytes
namespace Go.EV
open Go Go.HL

section
variable {X : Sx} {GK K : List KP} {M : List Own} {γ : Va} {ρ : Rho} {h : Hp} {w0 w : World} {a : Act} {o : Oper}

theorem mapAt_ok (hs : St ⟨K, hO γ h :: M⟩ w0 w) {b : Nat} {es : List (Value × AV)} (hm : mapAt h b = some es) : tget h.tr b = some (.map es) ∧ ∃ g c arr clock, γ b = some (g, c) ∧ w.heap[g]? = some (.map arr clock) ∧ EVL γ es arr.toList := by
  unfold mapAt at hm
  split at hm
  · rename_i es' hb
    injection hm with hm; subst hm
    obtain ⟨g, c, ob, h1, h2, h3⟩ := st_get hs hb
    obtain ⟨arr, clock, rfl, h4⟩ := h3
    exact ⟨hb, g, c, arr, clock, h1, h2, h4⟩
  · cases hm
theorem EVL.len {es : List (Value × AV)} {l : List MapEntry} (he : EVL γ es l) : l.length = es.length := by
  induction he with
  | nil => rfl
  | cons _ _ _ ih => simp [ih]
theorem isSlT_ok (hX : XOk X GK) {ts : List TypeId} (hb : isSlT X ts = true) : ∃ t r e ei, ts = t :: r ∧ X.P.underlying t = some (.slice e) ∧ elemTI X t = some ei := by
  unfold isSlT at hb
  split at hb
  · rename_i t r
    split at hb
    · rename_i ei hei
      obtain ⟨e, hu, _⟩ := elemTI_ok hX hei
      exact ⟨t, r, e, ei, rfl, hu, hei⟩
    · cases hb
  · cases hb
theorem mapTI_ok (hX : XOk X GK) {t : TypeId} {ei : TI} (he : mapTI X t = some ei) : ∃ k e, X.P.underlying t = some (.map k e) ∧ TOk X.P e ei := by
  unfold mapTI at he
  cases ht : X.TT t with
  | none => rw [ht] at he; cases he
  | some ti =>
    rw [ht] at he
    have hu := (hX.tt t ti ht).und
    simp only at he
    split at he
    · rename_i k e hu'
      rw [hu'] at hu
      exact ⟨k, e, hu, hX.tt _ _ he⟩
    · cases he
theorem isMapT_ok (hX : XOk X GK) {ts : List TypeId} (hb : isMapT X ts = true) : ∃ t r k e, ts = t :: r ∧ X.P.underlying t = some (.map k e) := by
  unfold isMapT at hb
  split at hb
  · rename_i t r
    split at hb
    · rename_i ei hei
      obtain ⟨k, e, hu, _⟩ := mapTI_ok hX hei
      exact ⟨t, r, k, e, rfl, hu⟩
    · cases hb
  · cases hb
theorem whenB_ok {b : Bool} {r : Res} (hr : b = true → Good X.P K M γ h w0 a w o r) : Good X.P K M γ h w0 a w o (whenB b r) := by
  cases b with
  | true => exact hr rfl
  | false => trivial
theorem list0 {α : Type} {q : Array α} {x : α} {r : List α} (hq : q.toList = x :: r) : q[0]? = some x := by
  rw [← Array.getElem?_toList, hq]; rfl

theorem oLen_ok (hX : XOk X GK) (hE : EnvR γ ρ a) (hs : St ⟨K, hO γ h :: M⟩ w0 w) {c : Call} (ho : o.op = .call c) (hc : c.callee = .builtin .len) : Good X.P K M γ h w0 a w o (oLen X ρ h o c.argTypes.toList c.args.toList) := by
  unfold oLen
  split
  · rename_i x hargs
    have hargs' : c.args = #[x] := Array.ext' (by rw [hargs])
    split
    · rename_i b e0 sz len cap hx
      refine whenB_ok fun hb => ?_
      obtain ⟨t, r, e, ei, hts, hu, _⟩ := isSlT_ok hX hb
      have h1 := ev_ok hE hx
      simp only [IV] at h1
      obtain ⟨g, k, _, he⟩ := h1
      refine ⟨_, ?_, iv_v.2 rfl⟩
      simp [execOp, ho, resolve, hc, invoke, builtin, Builtin.len_, list0 hts, hargs', he, run_underlying hu, goInt]
    · rename_i hx
      refine whenB_ok fun hb => ?_
      obtain ⟨t, r, e, ei, hts, hu, _⟩ := isSlT_ok hX hb
      have h1 := ev_ok hE hx
      simp only [IV] at h1
      obtain ⟨g, k, he⟩ := h1
      refine ⟨_, ?_, iv_v.2 rfl⟩
      simp [execOp, ho, resolve, hc, invoke, builtin, Builtin.len_, list0 hts, hargs', he, run_underlying hu, goInt]
    · rename_i b hx
      refine whenB_ok fun hb => ?_
      obtain ⟨t, r, k, e, hts, hu⟩ := isMapT_ok hX hb
      unfold lenM
      split
      · rename_i es hm
        obtain ⟨_, g, cp, arr, clock, hg, hw, hev⟩ := mapAt_ok hs hm
        have h1 := ev_ok hE hx
        simp only [IV] at h1
        obtain ⟨g', k', hg', he⟩ := h1
        rw [hg] at hg'; injection hg' with hg'; injection hg' with hg' _; subst hg'
        refine ⟨_, ?_, iv_v.2 rfl⟩
        have hl : arr.size = es.length := by rw [← hev.len]; simp
        simp [execOp, ho, resolve, hc, invoke, builtin, Builtin.len_, list0 hts, hargs', he, run_underlying hu, goInt, Go.MapKept.run_getObj_map hw, hl]
      · trivial
    · exact gen_ok hE (by rw [ho]; exact ⟨_, hc⟩)
  · trivial
theorem oCap_ok (hX : XOk X GK) (hE : EnvR γ ρ a) {c : Call} (ho : o.op = .call c) (hc : c.callee = .builtin .cap) : Good X.P K M γ h w0 a w o (oCap X ρ o c.argTypes.toList c.args.toList) := by
  unfold oCap
  split
  · rename_i x hargs
    have hargs' : c.args = #[x] := Array.ext' (by rw [hargs])
    split
    · rename_i b e0 sz len k hx
      refine whenB_ok fun hb => ?_
      obtain ⟨t, r, e, ei, hts, hu, _⟩ := isSlT_ok hX hb
      have h1 := ev_ok hE hx
      simp only [IV] at h1
      obtain ⟨g, k', _, he⟩ := h1
      refine ⟨_, ?_, iv_v.2 rfl⟩
      simp [execOp, ho, resolve, hc, invoke, builtin, Builtin.cap_, list0 hts, hargs', he, run_underlying hu, goInt, capOf]
    · exact gen_ok hE (by rw [ho]; exact ⟨_, hc⟩)
  · trivial

/-! ## Loads -/

theorem loads_ok {g off n : Nat} {us : List Value} (hl : us.length = n) (hc : ∀ j u, us[j]? = some u → w.cell? ⟨g, off + j, none⟩ = some u) : (loadCells ⟨g, off, none⟩ n).run X.P w = .ok us.toArray w := by
  subst hl
  refine run_loadCells_list w _ us fun j u hj => ?_
  rw [addr_add']; exact hc j u hj

theorem ld_ok (hX : XOk X GK) {t : TypeId} {ti : TI} (ht : X.TT t = some ti) {x : Operand} {g off : Nat} (ho : o.op = .load t x) (he : a.eval x = .pointer (some ⟨g, off, none⟩)) {cs : List AV} {us : List Value} (hv : IVL γ cs us) (hl : us.length = ti.sz)
    (hc : ∀ j u, us[j]? = some u → w.cell? ⟨g, off + j, none⟩ = some u) : Good X.P K M γ h w0 a w o (rO (aggOr ti.agg cs)) := by
  refine rO_ok fun v hv' => ?_
  have hok := hX.tt t ti ht
  rcases aggOr_ok hok hv hl hv' with ⟨hag, h3⟩ | ⟨hag, u, rfl, h3⟩
  · refine ⟨_, ?_, h3⟩
    have hr := loads_ok (X := X) (w := w) (off := off) hl hc
    simp [execOp, ho, he, Instr.loadAt, Instr.sureAddr, loadVar, run_isAgg' hok, hag, run_sizeOf' hok, hr]
  · refine ⟨u, ?_, h3⟩
    have := hc 0 u rfl
    simp only [Nat.add_zero] at this
    simp [execOp, ho, he, Instr.loadAt, Instr.sureAddr, loadVar, run_isAgg' hok, hag, this]

theorem oLoad_ok (hX : XOk X GK) (hG : ∀ k ∈ GK, k ∈ K) (hE : EnvR γ ρ a) (hs : St ⟨K, hO γ h :: M⟩ w0 w) {t : TypeId} {x : Operand} (ho : o.op = .load t x) : Good X.P K M γ h w0 a w o (oLoad X ρ h t x) := by
  unfold oLoad
  cases ht : X.TT t with
  | none => trivial
  | some ti =>
    simp only
    split
    · rename_i b off hx
      unfold ldB
      split
      · rename_i cs hcs
        have h1 := ev_ok hE hx
        simp only [IV] at h1
        obtain ⟨g, c, hg, he⟩ := h1
        obtain ⟨g', c', us, hg', hv, hl, hc⟩ := rd_ok hcs hs
        rw [hg] at hg'; injection hg' with hg'; injection hg' with hg' _; subst hg'
        exact ld_ok hX ht ho he hv hl hc
      · trivial
    · rename_i g off hx
      unfold ldG
      split
      · rename_i l hgt
        split
        · rename_i cs hcs
          obtain ⟨hle, rfl⟩ := sub_eq hcs
          rw [List.length_map] at hle
          obtain ⟨H, l1, l2, hk, _, _, ha, _⟩ := hs.focus Sel.head
          obtain ⟨arr, e, fr, hH, hc⟩ := hk _ (hG _ (hX.gt g l hgt))
          have hw := ha.1 _ _ hH
          refine ld_ok hX ht ho (ev_v hE hx) (us := (l.drop off).take ti.sz) (((ivl_map_v l).drop off).take ti.sz) (by simp; omega) fun j u hj => ?_
          have hjn : j < ti.sz := by
            rcases Nat.lt_or_ge j ti.sz with h' | h'
            · exact h'
            · rw [List.getElem?_eq_none (by simp; omega)] at hj; cases hj
          rw [List.getElem?_take_of_lt hjn, List.getElem?_drop] at hj
          simp only [World.cell?, hw, Option.isSome_none, Bool.false_eq_true, if_false]
          exact hc _ _ hj
        · trivial
      · trivial
    · trivial

/-! ## Maps -/

theorem mapKT_ok (hX : XOk X GK) {t : TypeId} {k : Value} {ei : TI} (he : mapKT X t k = some ei) : ∃ kt e d, X.P.underlying t = some (.map kt e) ∧ TOk X.P e ei ∧ X.P.underlying kt = some d ∧ keyOk d k = true := by
  unfold mapKT at he
  cases ht : X.TT t with
  | none => rw [ht] at he; cases he
  | some ti =>
    rw [ht] at he
    have hu := (hX.tt t ti ht).und
    simp only at he
    split at he
    · rename_i kt et hu'
      rw [hu'] at hu
      cases hk : X.TT kt with
      | none => rw [hk] at he; cases he
      | some ki =>
        rw [hk] at he
        simp only at he
        cases hko : keyOk ki.u k with
        | false => rw [hko] at he; cases he
        | true => rw [hko] at he; exact ⟨kt, et, ki.u, hu, hX.tt _ _ he, (hX.tt kt ki hk).und, hko⟩
    · cases he
theorem keyEq_ok {d : TypeDesc} {k k' : Value} {r : Bool} (hk : keyEq k k' = some r) (hd : keyOk d k = true) : Instr.sameNow d k k' = some r := by
  unfold keyOk at hd
  split at hd
  · unfold keyEq at hk
    split at hk
    · rename_i e1; injection e1 with e1 e2; subst e1; subst e2; exact hk
    · rename_i e1; cases e1
    · cases hk
  · unfold keyEq at hk
    split at hk
    · rename_i e1; cases e1
    · rename_i e1; injection e1 with e1; subst e1; exact hk
    · cases hk
  · cases hd
theorem checkKey_ok {d : TypeDesc} {k : Value} {kt : TypeId} (hu : X.P.underlying kt = some d) (hd : keyOk d k = true) (b : Bool) (n : Nat) : (Instr.checkKey b (n + 1) kt k).run X.P w = .ok () w := by
  unfold keyOk at hd
  split at hd
  · simp [Instr.checkKey, run_underlying hu]
  · simp [Instr.checkKey, run_underlying hu]
  · cases hd
theorem findK_ok {d : TypeDesc} {k : Value} (hd : keyOk d k = true) : ∀ {es : List (Value × AV)} {l : List MapEntry} {r : Option AV} (i : Nat), EVL γ es l → findK k es = some r →
    (r = none ∧ Instr.findNow d k l i = some none) ∨ ∃ v j e, r = some v ∧ Instr.findNow d k l i = some (some (i + j, e.val)) ∧ l[j]? = some e ∧ IV γ v e.val := by
  intro es
  induction es with
  | nil => intro l r i he hf; cases he; simp only [findK] at hf; injection hf with hf; exact .inl ⟨hf.symm, rfl⟩
  | cons p es ih =>
    obtain ⟨k', x⟩ := p
    intro l r i he hf
    cases he with
    | @cons _ _ _ e l hk hv he =>
      simp only [findK] at hf
      cases hq : keyEq k k' with
      | none => rw [hq] at hf; cases hf
      | some b =>
        rw [hq] at hf
        have hs := keyEq_ok hq hd
        rw [← hk] at hs
        cases b with
        | true =>
          injection hf with hf
          exact .inr ⟨x, 0, e, hf.symm, by simp [Instr.findNow, hs], rfl, hv⟩
        | false =>
          rcases ih (i + 1) he hf with ⟨h1, h2⟩ | ⟨v, j, e', h1, h2, h3, h4⟩
          · exact .inl ⟨h1, by simp [Instr.findNow, hs, h2]⟩
          · exact .inr ⟨v, j + 1, e', h1, by simp only [Instr.findNow, hs]; rw [h2]; congr 3; omega, by simpa using h3, h4⟩
theorem run_findKey' {d : TypeDesc} {k : Value} {kt : TypeId} {l : List MapEntry} {r : Option (Nat × Value)} (hu : X.P.underlying kt = some d) (hf : Instr.findNow d k l 0 = some r) : (Instr.findKey kt k l).run X.P w = .ok r w := by
  simp [Instr.findKey, run_underlying hu, hf]
theorem mapO_ok (hE : EnvR γ ρ a) {x : Operand} {b : Nat} (hx : mapO ρ x = some b) : ∃ g c, γ b = some (g, c) ∧ a.eval x = .map (some g) := by
  unfold mapO at hx
  split at hx
  · rename_i b' hb
    injection hx with hx; subst hx
    have h1 := ev_ok hE hb
    simp only [IV] at h1
    exact h1
  · cases hx
theorem valO_ok (hE : EnvR γ ρ a) {x : Operand} {v : Value} (hx : valO ρ x = some v) : a.eval x = v := by
  unfold valO at hx
  split at hx
  · rename_i b' hb
    injection hx with hx; subst hx
    exact ev_v hE hb
  · cases hx
theorem oLookup_ok (hX : XOk X GK) (hE : EnvR γ ρ a) (hs : St ⟨K, hO γ h :: M⟩ w0 w) {t : TypeId} {x y : Operand} {ok : Bool} (ho : o.op = .lookup t x y ok) : Good X.P K M γ h w0 a w o (oLookup X ρ h t x y ok) := by
  unfold oLookup
  split
  · rename_i b hb
    split
    · rename_i k hk
      split
      · rename_i ei hei
        split
        · rename_i es hm
          refine rO_ok fun v hv => ?_
          obtain ⟨kt, e, d, hu, ht, hku, hko⟩ := mapKT_ok hX hei
          obtain ⟨_, g, cp, arr, clock, hg, hw, hev⟩ := mapAt_ok hs hm
          obtain ⟨g', c', hg', he⟩ := mapO_ok hE hb
          rw [hg] at hg'; injection hg' with hg'; injection hg' with hg' _; subst hg'
          have hkv := valO_ok hE hk
          have hck := checkKey_ok (w := w) hku hko arr.isEmpty 9999
          cases hf : findK k es with
          | none => rw [hf] at hv; cases hv
          | some r =>
            rw [hf] at hv
            rcases findK_ok hko 0 hev hf with ⟨rfl, hfn⟩ | ⟨x', j, en, rfl, hfn, _, hx'⟩
            · have hfk := run_findKey' (w := w) hku hfn
              have hrun : (execOp a.eval o).run X.P w = .ok (.value (if ok then .tuple #[ei.zero, .bool false] else ei.zero)) w := by
                simp [execOp, ho, he, hkv, Instr.lookup, run_underlying hu, Go.MapKept.run_getObj_map hw, hck, hfk, run_zero' ht]
              refine ⟨_, hrun, ?_⟩
              simp only [lkRes] at hv
              injection hv with hv; subst hv
              cases ok with
              | true => exact iv_mkTup (IVL.cons (iv_v.2 rfl) (IVL.cons (iv_v.2 rfl) IVL.nil))
              | false => exact iv_v.2 rfl
            · have hfk := run_findKey' (w := w) hku hfn
              have hrun : (execOp a.eval o).run X.P w = .ok (.value (if ok then .tuple #[en.val, .bool true] else en.val)) w := by
                simp [execOp, ho, he, hkv, Instr.lookup, run_underlying hu, Go.MapKept.run_getObj_map hw, hck, hfk]
              refine ⟨_, hrun, ?_⟩
              simp only [lkRes] at hv
              injection hv with hv; subst hv
              cases ok with
              | true => exact iv_mkTup (IVL.cons hx' (IVL.cons (iv_v.2 rfl) IVL.nil))
              | false => exact hx'
        · trivial
      · trivial
    · trivial
  · trivial

/-! ## Conversions that turn nothing -/

theorem bytesA_ok : ∀ {cs : List AV} {bs : List UInt8} {us : List Value}, bytesA cs = some bs → IVL γ cs us → ∃ ns : List Int, us = ns.map (Value.int .u8) ∧ bs = ns.map fun n => UInt8.ofNat n.toNat
  | [], bs, us, hb, hv => by simp only [bytesA] at hb; injection hb with hb; subst hb; rw [ivl_nil.1 hv]; exact ⟨[], rfl, rfl⟩
  | c :: cs, bs, us, hb, hv => by
    obtain ⟨u, r, rfl, h1, h2⟩ := ivl_cons.1 hv
    unfold bytesA at hb
    split at hb
    · rename_i heq; cases heq
    · rename_i n r' heq
      injection heq with e1 e2; subst e1; subst e2
      split at hb
      · rename_i l hl
        injection hb with hb; subst hb
        obtain ⟨ns, e1, e2⟩ := bytesA_ok hl h2
        rw [iv_v.1 h1]
        exact ⟨n :: ns, by rw [e1]; rfl, by rw [e2]; rfl⟩
      · cases hb
    · cases hb
theorem fold_push' : ∀ (l : List Int) (s : ByteArray), (l.foldl (fun r n => r.push (UInt8.ofNat n.toNat)) s) = ⟨(s.data.toList ++ l.map fun n => UInt8.ofNat n.toNat).toArray⟩
  | [], s => by simp
  | n :: l, s => by
    rw [List.foldl_cons, fold_push' l]
    simp [ByteArray.push]
theorem run_bts {g off n c : Nat} {ns : List Int} (hl : ns.length = n) (hc : ∀ j u, (ns.map (Value.int .u8))[j]? = some u → w.cell? ⟨g, off + j, none⟩ = some u) :
    (Conv.bytesToString (.slice (some ⟨g, off, none⟩) n c)).run X.P w = .ok (.string ⟨(ns.map fun n => UInt8.ofNat n.toNat).toArray⟩) w := by
  have hr := loads_ok (X := X) (w := w) (off := off) (n := n) (us := ns.map (Value.int .u8)) (by simp [hl]) hc
  have := run_bytesToString (P := X.P) w _ _ c _ hr
  rw [fold_push'] at this
  simpa using this
theorem isByteT_ok (hX : XOk X GK) {s : TypeId} (hb : isByteT X s = true) : ∃ e ei, X.P.underlying s = some (.slice e) ∧ X.P.underlying e = some (.int .u8) ∧ elemTI X s = some ei ∧ TOk X.P e ei ∧ ei.u = .int .u8 := by
  unfold isByteT at hb
  split at hb
  · rename_i ei hei
    obtain ⟨e, hu, ht⟩ := elemTI_ok hX hei
    split at hb
    · rename_i hu8
      have := ht.und
      rw [hu8] at this
      exact ⟨e, ei, hu, this, hei, ht, hu8⟩
    · cases hb
  · cases hb
theorem isStrT_ok (hX : XOk X GK) {s : TypeId} (hb : isStrT X s = true) : X.P.underlying s = some .string := by
  unfold isStrT at hb
  split at hb
  · rename_i ti hti
    have := (hX.tt s ti hti).und
    split at hb
    · rename_i hu; rw [hu] at this; exact this
    · cases hb
  · cases hb
theorem intT_ok (hX : XOk X GK) {s : TypeId} {k : IntKind} (hb : intT X s = some k) : X.P.underlying s = some (.int k) := by
  unfold intT at hb
  split at hb
  · rename_i ti hti
    have := (hX.tt s ti hti).und
    split at hb
    · rename_i hu; injection hb with hb; subst hb; rw [hu] at this; exact this
    · cases hb
  · cases hb

theorem cvStr_ok (hX : XOk X GK) (hE : EnvR γ ρ a) (hs : St ⟨K, hO γ h :: M⟩ w0 w) {s d : TypeId} {x : Operand} (ho : o.op = .convert s d x) {b e0 sz len : Nat} {cap : Option Nat} (hx : evO ρ x = some (.sl b e0 sz len cap)) (hd : isStrT X d = true) : Good X.P K M γ h w0 a w o (cvStr X h s b e0 sz len) := by
  unfold cvStr
  cases hb : Nat.beq sz 1 && isByteT X s with
  | false => trivial
  | true =>
    simp only
    rw [Bool.and_eq_true] at hb
    have hsz : sz = 1 := Nat.eq_of_beq_eq_true hb.1
    subst hsz
    obtain ⟨e, ei, hus, hue, _⟩ := isByteT_ok hX hb.2
    have hud := isStrT_ok hX hd
    split
    · rename_i cs hcs
      split
      · rename_i bs hbs
        have h1 := ev_ok hE hx
        simp only [IV] at h1
        obtain ⟨g, c, hg, he⟩ := h1
        obtain ⟨g', c', us, hg', hv, hl, hc⟩ := rd_ok hcs hs
        rw [hg] at hg'; injection hg' with hg'; injection hg' with hg' _; subst hg'
        obtain ⟨ns, rfl, rfl⟩ := bytesA_ok hbs hv
        rw [Nat.mul_one] at he
        have hr := run_bts (X := X) (w := w) (c := capOf c e0 cap) (ns := ns) (by simpa using hl) hc
        refine ⟨.string ⟨(ns.map fun n => UInt8.ofNat n.toNat).toArray⟩, ?_, iv_v.2 rfl⟩
        simp [execOp, ho, he, run_convert_bytes_string w s d e _ _ _ hus hue hud, hr]
      · trivial
    · trivial
end
end Go.EV
