/-
  Each step of the runner is the model's: append, copy, clear, conversions, calls.
-/
import Derived.Test.YthokbcjofkgopaaGreatDoorEvStp4
import Derived.Lib.AppendZerosOnto
namespace Go.EV
open Go Go.HL

/-- What an append of x comes to, in a row that has room and in one that hasn't. -/
structure Ap (P : Program) (t tx e : TypeId) (ei : TI) (x : Value) (n : Nat) (news : List Value) (w : World) : Prop where
  len : news.length = n * ei.sz
  one : ∀ u ∈ news, u.oneCell' = true
  room : ∀ ty b off sLen sCap, sLen + n ≤ sCap → (∀ j, j < news.length → (w.cell? ⟨b, off + sLen * ei.sz + j, none⟩).isSome = true) → (∀ j, j < news.length → w.frozen? ⟨b, off + sLen * ei.sz + j, none⟩ = false) →
    (Builtin.append_ #[t, tx] ty #[.slice (some ⟨b, off, none⟩) sLen sCap, x]).run P w = .ok (.slice (some ⟨b, off, none⟩) (sLen + n) sCap) (w.setCells b (off + sLen * ei.sz) news)
  grow : ∀ ty (base : Option Addr) sLen sCap (olds : List Value), (Builtin.firstCells ei.sz sLen (.slice base sLen sCap)).run P w.drew = .ok olds.toArray w.drew → sCap < sLen + n → (sLen + n) * ei.by_ ≤ 16777216 → sLen + n ≤ 16777216 →
    (Builtin.append_ #[t, tx] ty #[.slice base sLen sCap, x]).run P w = .ok (.slice (some ⟨w.heap.size, 0, none⟩) (sLen + n) (grownCap w (sLen + n) sCap e))
      (w.drew.alloc (.cells ((olds ++ news) ++ (List.replicate (grownCap w (sLen + n) sCap e - (sLen + n)) ei.zero.cells.toList).flatten).toArray e))
  nil : n = 0 → ∀ ty, (Builtin.append_ #[t, tx] ty #[.slice none 0 0, x]).run P w = .ok (.slice none 0 0) w
  slz : n = 0 → ∀ ty ad c, (Builtin.append_ #[t, tx] ty #[.slice (some ad) 0 c, x]).run P w = .ok (.slice (some ad) 0 c) w

section
variable {X : Sx} {GK K : List KP} {M : List Own} {γ : Va} {ρ : Rho} {h : Hp} {w0 w : World} {a : Act} {o : Oper}

theorem arr_eq (olds : List Value) (z : Value) (n : Nat) : olds.toArray ++ Builtin.zeroCells z.cells n = (olds ++ (List.replicate n z.cells.toList).flatten).toArray := by
  apply Array.ext'
  rw [Array.toList_append, zeros_eq]
theorem ap_src {t tx e : TypeId} {ei : TI} {x : Value} {n : Nat} {news : List Value} (hu : X.P.underlying t = some (.slice e)) (ht : TOk X.P e ei) (hs : Src X.P ei.sz tx x n news w) : Ap X.P t tx e ei x n news w := by
  obtain ⟨i, hi, hi1, hi2, hi3⟩ := ht.info
  have hs' : Src X.P i.size tx x n news w := by rw [hi1]; exact hs
  refine ⟨hs.newsLen, hs.one, fun ty b off sLen sCap hroom hc hf => ?_, fun ty base sLen sCap olds hold hg hb h63 => ?_, fun hn ty => ?_, fun hn ty ad c => ?_⟩
  · have := run_append_room_src w t tx ty e i hu hi b off sLen sCap x n news hs' hroom (by rw [hi1]; exact hc) (by rw [hi1]; exact hf)
    rw [hi1] at this; exact this
  · have := run_append_grow_src w t tx ty e i ei.zero hu hi hi3 base sLen sCap olds (by rw [hi1]; exact hold) x n news hs' hg (by omega) (growslice_fits (by omega) (by rw [hi2]; omega))
    rw [this, arr_eq]
  · subst hn
    have hnews : news = [] := List.eq_nil_of_length_eq_zero (by have := hs.newsLen; simpa using this)
    subst hnews
    have hc := hs.cells
    rcases hs.kind with ⟨e', hk⟩ | hk <;> simp [Builtin.append_, run_underlying hu, run_underlying hk, sizeOf, typeInfo, hi, hi1, hs.len, hc]
  · subst hn
    have hnews : news = [] := List.eq_nil_of_length_eq_zero (by have := hs.newsLen; simpa using this)
    subst hnews
    have hc := hs.cells
    rcases hs.kind with ⟨e', hk⟩ | hk <;> simp [Builtin.append_, run_underlying hu, run_underlying hk, sizeOf, typeInfo, hi, hi1, hs.len, hc, storeCells]
theorem ap_zeros {t tx e : TypeId} {ei : TI} {kq kn : IntKind} {n : Nat} (hu : X.P.underlying t = some (.slice e)) (htn : X.P.underlying tx = some (.int kn)) (ht : TOk X.P e ei) (h0 : 0 < n) (hsz : 0 < ei.sz) (hb : n * ei.by_ ≤ 16777216) (hn : n ≤ 16777216)
    (h1 : ∀ u ∈ (List.replicate n ei.zero.cells.toList).flatten, u.oneCell' = true) : Ap X.P t tx e ei (.int kq (n : Int)) n (List.replicate n ei.zero.cells.toList).flatten w := by
  obtain ⟨i, hi, hi1, hi2, hi3⟩ := ht.info
  have hw : IntKind.i64.wrap (n : Int) = n := by rw [IntKind.wrap_i64]; omega
  have hz := ht.zs
  have hl : ((List.replicate n ei.zero.cells.toList).flatten).length = n * ei.sz := by
    rw [List.length_flatten, List.map_replicate, List.sum_replicate_nat, Array.length_toList, hz]
  have t1 : ¬ ((n : Int) < 0) := by omega
  have t2 : ¬ ((n : Int) * (ei.by_ : Int) > 281474976710656) := by
    have : (n : Int) * (ei.by_ : Int) = ((n * ei.by_ : Nat) : Int) := by simp
    omega
  have t3 : n * ei.sz ≠ 0 := Nat.mul_ne_zero (by omega) (by omega)
  have hzc : (Builtin.zeroCells ei.zero.cells n).toList = (List.replicate n ei.zero.cells.toList).flatten := zeros_eq n
  refine ⟨hl, h1, fun ty b off sLen sCap hroom hc hf => ?_, fun ty base sLen sCap olds hold hg hb2 h63 => ?_, fun hn => absurd hn (by omega), fun hn => absurd hn (by omega)⟩
  · have hst := run_storeCells_cells (P := X.P) b (off + sLen * ei.sz) (List.replicate n ei.zero.cells.toList).flatten 0 w (by simpa using hc) (by simpa using hf) h1
    simp only [Nat.add_zero] at hst
    have t4 : n ≠ 0 := by omega
    have t5 : ei.sz ≠ 0 := by omega
    simp [Builtin.append_, run_underlying hu, run_underlying htn, sizeOf, typeInfo, hi, hi1, hi2, asInt, asIntOf, hw, t1, t2, hroom, run_zero' ht, hzc, addr_add', hst]
    exact fun hh => absurd hh t3
  · have := Go.Lib.run_append_grow_zeros w t tx ty e i ei.zero kq kn hu htn hi hi3 base sLen sCap olds (by rw [hi1]; exact hold) n h0 (by omega) hg (by omega) (by rw [hi2]; omega) (growslice_fits (by omega) (by rw [hi2]; omega))
    rw [this]
    congr 3
    apply Array.ext'
    simp [zeros_eq]

/-- A block made, whatever else the world's clock shows. -/
theorem new_ok' (hs : St ⟨K, hO γ h :: M⟩ w0 w) {ob : Obj} {ao : AO} {c : Nat} {v : AV} {u : Value} {w' : World} (hov : ∀ γ', Le γ γ' → OV γ' c ao ob) (hv : ∀ γ', γ' h.next = some (w.heap.size, c) → IV γ' v u)
    (hr : (execOp a.eval o).run X.P w = .ok (.value u) w') (hw : w'.heap = w.heap.push ob) (h0 : Same0 w w') : Good X.P K M γ h w0 a w o (.eff v (newB h ao)) := by
  have hf := st_fresh hs (Nat.le_refl h.next)
  have hx : Ext h.next γ (upV γ h.next (w.heap.size, c)) := ext_up hf (Nat.le_refl _)
  exact ⟨_, _, _, upV γ h.next (w.heap.size, c), hr, .inl rfl, hv _ (by simp [upV]), hx, Nat.le_succ _, st_new hs ao c ob (hov _ hx.le) hw h0⟩

theorem flen {z : Value} {sz n : Nat} (hz : z.cells.size = sz) : ((List.replicate n z.cells.toList).flatten).length = n * sz := by
  rw [List.length_flatten, List.map_replicate, List.sum_replicate_nat, Array.length_toList, hz]

/-- The op is an append. -/
theorem exec_app {c : Call} {t tx : TypeId} {s x : Operand} (ho : o.op = .call c) (hc : c.callee = .builtin .append) (hts : c.argTypes = #[t, tx]) (hargs : c.args = #[s, x]) :
    (execOp a.eval o).run X.P w = ((Builtin.append_ #[t, tx] o.type #[a.eval s, a.eval x]).run X.P w).andThen fun v w' => .ok (.value v) w' := by
  simp [execOp, ho, resolve, hc, invoke, builtin, hts, hargs, Result.andThen]

theorem firstCells_some {g off sLen sCap sz : Nat} {olds : List Value} (hl : olds.length = sLen * sz) (hc : ∀ j u, olds[j]? = some u → w.cell? ⟨g, off + j, none⟩ = some u) :
    (Builtin.firstCells sz sLen (.slice (some ⟨g, off, none⟩) sLen sCap)).run X.P w.drew = .ok olds.toArray w.drew :=
  run_firstCells_some w.drew sz sLen _ sLen sCap olds hl fun j u hj => by
    rw [addr_add']
    exact hc j u hj

theorem appOp_ok (hs : St ⟨K, hO γ h :: M⟩ w0 w) {c : Call} {t tx : TypeId} {s x : Operand} (ho : o.op = .call c) (hc : c.callee = .builtin .append) (hts : c.argTypes = #[t, tx]) (hargs : c.args = #[s, x])
    {e : TypeId} {ei : TI} (ht : TOk X.P e ei) {sv : AV} {n : Nat} {new : List AV} (hsv : IV γ sv (a.eval s)) {news : List Value} (hnv : IVL γ new news) (hap : new.all oneA = true → Ap X.P t tx e ei (a.eval x) n news w) :
    Good X.P K M γ h w0 a w o (appOp h ei sv n new) := by
  have hrun := exec_app (X := X) (a := a) (w := w) ho hc hts hargs
  have grow : ∀ {g off len cp : Nat} {sz : Nat} {old : List AV} {olds : List Value} {h1 : Hp}, sz = ei.sz → a.eval s = .slice (some ⟨g, off, none⟩) len cp → IVL γ old olds → olds.length = len * sz → (∀ j u, olds[j]? = some u → w.cell? ⟨g, off + j, none⟩ = some u) →
      new.all oneA = true → cp < len + n → (len + n) * ei.by_ ≤ 16777216 → len + n ≤ 16777216 → h1.next = h.next → St ⟨K, hO γ h1 :: M⟩ w0 w → Good X.P K M γ h w0 a w o (.eff (.sl h.next 0 sz (len + n) none) (newB h1 (.rowu sz (old ++ new)))) := by
    intro g off len cp sz old olds h1 hsz he hov hol hoc hone hcp hb hb2 hnx hst
    subst hsz
    have A := hap hone
    have hg := A.grow o.type (some ⟨g, off, none⟩) len cp olds (firstCells_some hol hoc) hcp hb hb2
    have hge := grownCap_ge w (len + n) cp e
    have hov' : ∀ γ', Le γ γ' → OV γ' (grownCap w (len + n) cp e) (.rowu ei.sz (old ++ new)) (.cells ((olds ++ news) ++ (List.replicate (grownCap w (len + n) cp e - (len + n)) ei.zero.cells.toList).flatten).toArray e) := fun γ' hle => by
      refine ⟨olds ++ news, _, e, (0, 0), IVL.append (hnv.mono hle) (hov.mono hle), rfl, ?_, .inl rfl⟩
      rw [List.length_append, List.length_append, hol, A.len, flen ht.zs, ← Nat.add_mul, ← Nat.add_mul]
      congr 1; omega
    have hf := st_fresh hst (Nat.le_refl h1.next)
    have hx : Ext h.next γ (upV γ h1.next (w.heap.size, grownCap w (len + n) cp e)) := ext_up hf (by omega)
    refine ⟨_, .slice (some ⟨w.heap.size, 0, none⟩) (len + n) (grownCap w (len + n) cp e), w.drew.alloc (.cells ((olds ++ news) ++ (List.replicate (grownCap w (len + n) cp e - (len + n)) ei.zero.cells.toList).flatten).toArray e), upV γ h1.next (w.heap.size, grownCap w (len + n) cp e), by rw [hrun, he, hg]; rfl, .inl rfl, ?_, hx, by show h.next ≤ h1.next + 1; omega, st_new hst _ _ _ (hov' _ hx.le) rfl ⟨rfl, rfl, rfl⟩⟩
    simp only [IV]
    refine ⟨w.heap.size, grownCap w (len + n) cp e, by simp [upV, hnx], by simp [capOf]⟩
  unfold appOp
  split
  · have he := iv_v.1 hsv
    split
    · refine whenB_ok fun hone => ?_
      have A := hap hone
      exact eff0 (nx := .value (.slice none 0 0)) (u := .slice none 0 0) (by rw [hrun, he, A.nil rfl]; rfl) (.inl rfl) (iv_v.2 rfl) rfl hs
    · rename_i n
      cases hb : roomOk (n + 1) ei.by_ && new.all oneA with
      | false => trivial
      | true =>
        simp only
        rw [Bool.and_eq_true] at hb
        have A := hap hb.2
        unfold roomOk at hb
        rw [Bool.and_eq_true] at hb
        have q1 : (n + 1) * ei.by_ ≤ 16777216 := Nat.le_of_ble_eq_true hb.1.1
        have q2 : n + 1 ≤ 16777216 := Nat.le_of_ble_eq_true hb.1.2
        have hg := A.grow o.type none 0 0 [] (run_firstCells_none w.drew _ 0 0 0) (by omega) (by simpa using q1) (by omega)
        simp only [Nat.zero_add, List.nil_append] at hg
        have hge := grownCap_ge w (n + 1) 0 e
        refine new_ok' (c := grownCap w (n + 1) 0 e) (u := .slice (some ⟨w.heap.size, 0, none⟩) (n + 1) (grownCap w (n + 1) 0 e)) (ob := .cells (news ++ (List.replicate (grownCap w (n + 1) 0 e - (n + 1)) ei.zero.cells.toList).flatten).toArray e) (w' := w.drew.alloc (.cells (news ++ (List.replicate (grownCap w (n + 1) 0 e - (n + 1)) ei.zero.cells.toList).flatten).toArray e)) hs (fun γ' hle => ?_) (fun γ' hg' => ?_) (by rw [hrun, he, hg]; rfl) rfl ⟨rfl, rfl, rfl⟩
        · refine ⟨news, _, e, (0, 0), hnv.mono hle, rfl, ?_, .inl rfl⟩
          rw [List.length_append, A.len, flen ht.zs, ← Nat.add_mul]
          congr 1; omega
        · simp only [IV]; exact ⟨_, _, hg', by simp [capOf]⟩
  · simp only [IV] at hsv
    have h0 := hsv
    obtain ⟨ad, c', he⟩ := hsv
    split
    · refine whenB_ok fun hone => ?_
      have A := hap hone
      exact eff0 (nx := .value (a.eval s)) (u := a.eval s) (by rw [hrun, he, A.slz rfl]; rfl) (.inl rfl) (by simp only [IV]; exact h0) rfl hs
    · trivial
  · rename_i b e0 sz len cap
    simp only [IV] at hsv
    obtain ⟨g, cp, hg, he⟩ := hsv
    split
    · trivial
    · rename_i hsz
      have hsz : sz = ei.sz := Nat.eq_of_beq_eq_true hsz
      -- there is room in what is known
      have room : ∀ {h' : Hp} {k : Option Nat}, cap = k → wr h b (Nat.mul (Nat.add e0 len) sz) new = some h' → len + n ≤ capOf cp e0 k → Good X.P K M γ h w0 a w o (.eff (.sl b e0 sz (Nat.add len n) k) h') := by
        intro h' k hk hw hroom
        subst hk
        obtain ⟨g', c', hg', hcl, hfz, h1c, hnx, hst⟩ := wr_ok hw hnv hs
        rw [hg] at hg'; injection hg' with hg'; injection hg' with hg' _; subst hg'
        have hone : new.all oneA = true := by
          unfold wr at hw
          split at hw
          · cases hw
          · split at hw
            · cases hw
            · split at hw
              · rename_i hh; rw [Bool.and_eq_true] at hh; exact hh.2
              · cases hw
        have A := hap hone
        subst hsz
        have e1 : (e0 + len) * ei.sz = e0 * ei.sz + len * ei.sz := Nat.add_mul _ _ _
        have hrm := A.room o.type g (e0 * ei.sz) len (capOf cp e0 cap) hroom (fun j hj => by have := hcl j hj; rw [← e1]; exact this) (fun j hj => by have := hfz j hj; rw [← e1]; exact this)
        refine eff0 (nx := .value (.slice (some ⟨g, e0 * ei.sz, none⟩) (len + n) (capOf cp e0 cap))) (u := .slice (some ⟨g, e0 * ei.sz, none⟩) (len + n) (capOf cp e0 cap)) ?_ (.inl rfl) ?_ hnx hst
        · rw [hrun, he, hrm, ← e1]; rfl
        · simp only [IV]; exact ⟨g, cp, hg, rfl⟩
      split
      · rename_i k
        unfold appCap
        split
        · rename_i hle
          exact effO_ok fun h' hw => room rfl hw (Nat.le_of_ble_eq_true hle)
        · rename_i hle
          split
          · rename_i old hold
            cases hb : roomOk (Nat.add len n) ei.by_ && new.all oneA with
            | false => trivial
            | true =>
              simp only
              rw [Bool.and_eq_true] at hb
              have hone := hb.2
              unfold roomOk at hb
              rw [Bool.and_eq_true] at hb
              obtain ⟨g', c', olds, hg', hov, hol, hoc⟩ := rd_ok hold hs
              rw [hg] at hg'; injection hg' with hg'; injection hg' with hg' _; subst hg'
              have hlt : k < len + n := by
                rcases Nat.lt_or_ge k (len + n) with h' | h'
                · exact h'
                · have : Nat.ble (Nat.add len n) k = true := Nat.ble_eq_true_of_le h'
                  rw [this] at hle; cases hle
              exact grow (cp := k) hsz (by rw [he]; rfl) hov hol hoc hone hlt (Nat.le_of_ble_eq_true hb.1.1) (Nat.le_of_ble_eq_true hb.1.2) rfl hs
          · trivial
      · unfold appRow
        split
        · rename_i hb
          rw [Bool.and_eq_true] at hb
          have q0 : 0 < sz := by simpa [Nat.blt_eq] using hb.2
          have q1 : e0 + (len + n) ≤ cp := known_le hs hg q0 (Nat.le_of_ble_eq_true hb.1)
          exact effO_ok fun h' hw => room rfl hw (by simp only [capOf]; omega)
        · split
          · trivial
          · split
            · rename_i l hl
              cases hb : Nat.ble (Nat.mul len sz) l.length && (roomOk (Nat.add len n) ei.by_ && new.all oneA) with
              | false => trivial
              | true =>
                simp only
                rw [Bool.and_eq_true, Bool.and_eq_true] at hb
                have hone := hb.2.2
                have q1 : len * sz ≤ l.length := Nat.le_of_ble_eq_true hb.1
                have hr := hb.2.1
                unfold roomOk at hr
                rw [Bool.and_eq_true] at hr
                unfold rowAt at hl
                split at hl
                · rename_i s' l' hb'
                  split at hl
                  · rename_i hss
                    injection hl with hl; subst hl
                    have hss : s' = sz := Nat.eq_of_beq_eq_true hss
                    subst hss
                    obtain ⟨g', c', us, rest, ee, fr, hg', hw', hiv, hfr, _, _, htot⟩ := blk hb' rfl hs
                    rw [hg] at hg'; injection hg' with hg'; injection hg' with hg' hg''; subst hg'; subst hg''
                    have htot := htot s' rfl
                    have hlen := hiv.len
                    have hov : IVL γ (l'.take (len * s')) (us.take (len * s')) := hiv.take _
                    have hol : (us.take (len * s')).length = len * s' := by rw [List.length_take]; omega
                    have hoc : ∀ j u, (us.take (len * s'))[j]? = some u → w.cell? ⟨g, 0 + j, none⟩ = some u := by
                      intro j u hj
                      have hjn : j < len * s' := by
                        rcases Nat.lt_or_ge j (len * s') with h' | h'
                        · exact h'
                        · rw [List.getElem?_eq_none (by omega)] at hj; cases hj
                      rw [List.getElem?_take_of_lt hjn] at hj
                      simp only [World.cell?, hw', Option.isSome_none, Bool.false_eq_true, if_false, Nat.zero_add]
                      rw [List.getElem?_toArray, List.getElem?_append_left (by omega)]
                      exact hj
                    have A := hap hone
                    simp only [Nat.zero_mul, capOf, Nat.sub_zero] at he
                    by_cases hroom : len + n ≤ cp
                    · -- in place
                      have hmul : (len + n) * s' ≤ cp * s' := Nat.mul_le_mul_right _ hroom
                      rw [Nat.add_mul] at hmul
                      have hnl : news.length = n * s' := by rw [hsz]; exact A.len
                      have hfit : len * s' + news.length ≤ (us ++ rest).toArray.size := by simp only [List.size_toArray]; omega
                      obtain ⟨k1, k2, k3⟩ := setCells_heap g news (len * s') w _ ee fr hw' hfit
                      have hrm := A.room o.type g 0 len cp hroom (fun j hj => by
                        simp only [World.cell?, hw', Option.isSome_none, Bool.false_eq_true, if_false]
                        rw [List.getElem?_toArray, List.getElem?_eq_getElem (by rw [← hsz]; simp only [List.size_toArray] at hfit; omega)]; rfl) (fun j hj => by
                        simp only [World.frozen?, hw']
                        exact hfr.not (by rw [← hsz]; simp only [List.size_toArray] at hfit; omega))
                      have hf := st_fresh hs (Nat.le_refl h.next)
                      have hx : Ext h.next γ (upV γ h.next (g, cp)) := ext_up hf (Nat.le_refl _)
                      refine ⟨_, .slice (some ⟨g, 0, none⟩) (len + n) cp, w.setCells g (len * s') news, upV γ h.next (g, cp), by rw [hrun, he, hrm, hsz, Nat.zero_add]; rfl, .inl rfl, ?_, hx, Nat.le_succ _, st_move hs hb' hg ?_ k2 k1 k3⟩
                      · simp only [IV]; exact ⟨g, cp, by simp [upV], by simp [capOf]⟩
                      · simp only
                        refine ⟨us.take (len * s') ++ news, (us ++ rest).drop (len * s' + news.length), ee, fr, IVL.append (hnv.mono hx.le) (hov.mono hx.le), ?_, ?_, ?_⟩
                        · rw [List.take_append_of_le_length (by omega), List.append_assoc]
                        · rw [← htot]; simp only [List.length_append, List.length_take, List.length_drop]
                          simp only [List.size_toArray, List.length_append] at hfit
                          omega
                        · have : (us.take (len * s') ++ news ++ (us ++ rest).drop (len * s' + news.length)).length = (us ++ rest).length := by
                            simp only [List.length_append, List.length_take, List.length_drop]
                            simp only [List.size_toArray, List.length_append] at hfit
                            omega
                          rw [this]; exact hfr
                    · exact grow (cp := cp) (h1 := ⟨tset h.tr b none, h.next⟩) hsz he hov hol hoc hone (by omega) (Nat.le_of_ble_eq_true hr.1) (Nat.le_of_ble_eq_true hr.2) rfl (st_drop hs b)
                  · cases hl
                · cases hl
            · trivial
  · trivial

theorem isSl1_ok (hX : XOk X GK) {t : TypeId} (hb : isSl1 X t = true) : ∃ e, X.P.underlying t = some (.slice e) := by
  unfold isSl1 at hb
  split at hb
  · rename_i ei hei
    obtain ⟨e, hu, _⟩ := elemTI_ok hX hei
    exact ⟨e, hu⟩
  · cases hb
theorem byteV_ok (s : ByteArray) : IVL γ (s.data.toList.map byteV) (byteCells s) := by
  unfold byteCells
  generalize s.data.toList = l
  induction l with
  | nil => exact IVL.nil
  | cons b l ih => exact IVL.cons (iv_v.2 rfl) ih
/-- What is appended or copied, as the model finds it. -/
theorem src_ok (hX : XOk X GK) (hs : St ⟨K, hO γ h :: M⟩ w0 w) {tx : TypeId} {sz n : Nat} {new : List AV} {v : AV} {x : Value} (hv : IV γ v x) (hsrc : srcCells X h tx sz v = some (n, new)) :
    ∃ news, IVL γ new news ∧ (Builtin.lenOf x).run X.P w = .ok n w ∧ news.length = n * sz ∧ (∀ k, k ≤ n → (Builtin.firstCells sz k x).run X.P w = .ok (news.take (k * sz)).toArray w) ∧ (new.all oneA = true → Src X.P sz tx x n news w) := by
  unfold srcCells at hsrc
  split at hsrc
  · rename_i s
    have he := iv_v.1 hv
    subst he
    split at hsrc
    · rename_i hb
      injection hsrc with hsrc; injection hsrc with e1 e2; subst e1; subst e2
      rw [Bool.and_eq_true] at hb
      have hsz : sz = 1 := Nat.eq_of_beq_eq_true hb.1
      subst hsz
      have hu := isStrT_ok hX hb.2
      have hl : s.data.toList.length = s.size := by rw [Array.length_toList]; rfl
      rw [hl]
      have S := Src.ofString (P := X.P) w hu s
      refine ⟨byteCells s, byteV_ok s, S.len w, S.newsLen, fun k hk => ?_, fun _ => S⟩
      simp only [Builtin.firstCells, Sem.run_pure]
      congr 1
      apply Array.ext'
      unfold byteCells
      simp
    · cases hsrc
  · have he := iv_v.1 hv
    subst he
    split at hsrc
    · rename_i hb
      injection hsrc with hsrc; injection hsrc with e1 e2; subst e1; subst e2
      obtain ⟨e, hu⟩ := isSl1_ok hX hb
      have S := Src.ofNil (P := X.P) w (size := sz) hu 0
      exact ⟨[], IVL.nil, S.len w, by simp, fun k hk => by simp [Builtin.firstCells], fun _ => S⟩
    · cases hsrc
  · simp only [IV] at hv
    obtain ⟨ad, c, rfl⟩ := hv
    split at hsrc
    · rename_i hb
      injection hsrc with hsrc; injection hsrc with e1 e2; subst e1; subst e2
      obtain ⟨e, hu⟩ := isSl1_ok hX hb
      have S := Src.ofSlice (P := X.P) w (size := sz) hu ad 0 c [] (by simp) (by simp) (by simp)
      exact ⟨[], IVL.nil, S.len w, by simp, fun k hk => by
        have : k = 0 := by omega
        subst this
        simp [Builtin.firstCells, loadCells, loadCellsFrom], fun _ => S⟩
    · cases hsrc
  · rename_i b e0 sz' len cap
    simp only [IV] at hv
    obtain ⟨g, c, hg, rfl⟩ := hv
    split at hsrc
    · rename_i hb
      rw [Bool.and_eq_true] at hb
      have hsz : sz = sz' := Nat.eq_of_beq_eq_true hb.1
      subst hsz
      obtain ⟨e, hu⟩ := isSl1_ok hX hb.2
      split at hsrc
      · rename_i l hl
        injection hsrc with hsrc; injection hsrc with e1 e2; subst e1; subst e2
        obtain ⟨g', c', us, hg', hov, hol, hoc⟩ := rd_ok hl hs
        rw [hg] at hg'; injection hg' with hg'; injection hg' with hg' _; subst hg'
        have hoc' : ∀ j u, us[j]? = some u → w.cell? ((⟨g, e0 * sz, none⟩ : Addr).add j) = some u := fun j u hj => by rw [addr_add']; exact hoc j u hj
        refine ⟨us, hov, rfl, hol, fun k hk => ?_, fun hone => Src.ofSlice (P := X.P) w hu _ len _ us hol hoc' (hov.one hone)⟩
        refine run_firstCells_some w sz k _ len _ (us.take (k * sz)) ?_ fun j u hj => ?_
        · rw [List.length_take]
          have : k * sz ≤ len * sz := Nat.mul_le_mul_right _ hk
          have hol' : us.length = len * sz := hol
          omega
        · refine hoc' j u ?_
          have hjn : j < k * sz := by
            rcases Nat.lt_or_ge j (k * sz) with h' | h'
            · exact h'
            · rw [List.getElem?_eq_none (by rw [List.length_take]; omega)] at hj; cases hj
          rwa [List.getElem?_take_of_lt hjn] at hj
      · cases hsrc
    · cases hsrc
  · cases hsrc

theorem arr2 {α : Type} {q : Array α} {x y : α} (hq : q.toList = [x, y]) : q = #[x, y] := Array.ext' (by rw [hq])
theorem repZ_one {z : AV} {us : List Value} (hz : IVL γ (cellsA z) us) (n : Nat) (h1 : (repZ (cellsA z) n).all oneA = true) : ∀ u ∈ (List.replicate n us).flatten, u.oneCell' = true := (repZ_ok hz n).one h1

theorem oAppend_ok (hX : XOk X GK) (hE : EnvR γ ρ a) (hs : St ⟨K, hO γ h :: M⟩ w0 w) {c : Call} (ho : o.op = .call c) (hc : c.callee = .builtin .append) : Good X.P K M γ h w0 a w o (oAppend X ρ h c.argTypes.toList c.args.toList) := by
  unfold oAppend
  split
  · rename_i t tx hts
    split
    · rename_i s x hargs
      split
      · rename_i ei hei
        obtain ⟨e, hu, ht⟩ := elemTI_ok hX hei
        split
        · rename_i sv hsv
          split
          · rename_i xv hxv
            have h1 := ev_ok hE hsv
            have h2 := ev_ok hE hxv
            split
            · rename_i hint
              unfold appZ
              split
              · rename_i k n
                cases hb : roomOk n ei.by_ && Nat.blt 0 n && Nat.blt 0 ei.sz with
                | false => trivial
                | true =>
                  obtain ⟨q1, q2, q3⟩ := bool3 hb
                  unfold roomOk at q1
                  rw [Bool.and_eq_true] at q1
                  have hxe := iv_v.1 h2
                  have hit : ∃ kn, X.P.underlying tx = some (.int kn) := by
                    unfold isIntT at hint
                    simp only at hint
                    split at hint
                    · rename_i kn hkn; exact ⟨kn, intT_ok hX hkn⟩
                    · cases hint
                  obtain ⟨kn, hkn⟩ := hit
                  have hz0 : IVL γ (cellsA (.v ei.zero)) ei.zero.cells.toList := iv_cellsA (iv_v.2 rfl)
                  refine appOp_ok hs ho hc (arr2 hts) (arr2 hargs) ht h1 (repZ_ok hz0 n) fun hone => ?_
                  rw [hxe]
                  exact ap_zeros hu hkn ht (by simpa [Nat.blt_eq] using q2) (by simpa [Nat.blt_eq] using q3) (Nat.le_of_ble_eq_true q1.1) (Nat.le_of_ble_eq_true q1.2) (repZ_one hz0 n hone)
              · trivial
            · split
              · rename_i n new hsrc
                obtain ⟨news, hn, _, _, _, hS⟩ := src_ok hX hs h2 hsrc
                exact appOp_ok hs ho hc (arr2 hts) (arr2 hargs) ht h1 hn fun hone => ap_src hu ht (hS hone)
              · trivial
          · trivial
        · trivial
      · trivial
    · trivial
  · trivial

theorem oCopy_ok (hX : XOk X GK) (hE : EnvR γ ρ a) (hs : St ⟨K, hO γ h :: M⟩ w0 w) {c : Call} (ho : o.op = .call c) (hc : c.callee = .builtin .copy) : Good X.P K M γ h w0 a w o (oCopy X ρ h c.argTypes.toList c.args.toList) := by
  unfold oCopy
  split
  · rename_i t tx hts
    split
    · rename_i d s hargs
      split
      · rename_i ei hei
        obtain ⟨e, hu, ht⟩ := elemTI_ok hX hei
        split
        · rename_i dv hdv
          split
          · rename_i sv hsv
            split
            · rename_i n cs hsrc
              have h1 := ev_ok hE hdv
              have h2 := ev_ok hE hsv
              obtain ⟨news, hn, hlen, hnl, hfc, _⟩ := src_ok hX hs h2 hsrc
              have hts' := arr2 hts
              have hargs' := arr2 hargs
              have run0 : ∀ base dl dc w', a.eval d = .slice base dl dc → ((match base with | some ad => (storeCells ad (news.take (min n dl * ei.sz))) | none => pure () : Sem Unit).run X.P w = .ok () w') →
                  (execOp a.eval o).run X.P w = .ok (.value (.int .i64 ((min n dl : Nat) : Int))) w' := fun base dl dc w' hd hst => by
                have hf := hfc (min n dl) (Nat.min_le_left _ _)
                simp only [execOp, ho, resolve, hc, invoke, builtin, Builtin.copy_, hts', hargs', Sem.run_bind, Sem.run_pure, Result.andThen]
                simp [run_underlying hu, hd, hlen, run_sizeOf' ht, hf, goInt]
                cases base with
                | none => simp at hst; subst hst; simp
                | some ad => simp only at hst; simp [hst]
              unfold copyTo
              split
              · rename_i b e0 sz len cap
                simp only [IV] at h1
                obtain ⟨g, cp, hg, he⟩ := h1
                split
                · rename_i hsz
                  have hsz : sz = ei.sz := Nat.eq_of_beq_eq_true hsz
                  subst hsz
                  refine effO_ok fun h' hw => ?_
                  obtain ⟨g', c', hg', hcl, hfz, h1c, hnx, hst⟩ := wr_ok hw (hn.take _) hs
                  rw [hg] at hg'; injection hg' with hg'; injection hg' with hg' _; subst hg'
                  have hrs := run_storeCells_cells (P := X.P) g (e0 * ei.sz) (news.take (min n len * ei.sz)) 0 w (by simpa using hcl) (by simpa using hfz) h1c
                  simp only [Nat.add_zero] at hrs
                  exact eff0 (run0 _ _ _ _ he hrs) (.inl rfl) (iv_v.2 rfl) hnx hst
                · trivial
              · have he := iv_v.1 h1
                have := run0 none 0 0 w he rfl
                rw [Nat.min_zero] at this
                exact eff0 this (.inl rfl) (iv_v.2 rfl) rfl hs
              · simp only [IV] at h1
                obtain ⟨ad, cp, he⟩ := h1
                have := run0 (some ad) 0 cp w he (by simp [storeCells])
                rw [Nat.min_zero] at this
                exact eff0 this (.inl rfl) (iv_v.2 rfl) rfl hs
              · trivial
            · trivial
          · trivial
        · trivial
      · trivial
    · trivial
  · trivial

theorem oClear_ok (hX : XOk X GK) (hE : EnvR γ ρ a) (hs : St ⟨K, hO γ h :: M⟩ w0 w) {c : Call} (ho : o.op = .call c) (hc : c.callee = .builtin .clear) : Good X.P K M γ h w0 a w o (oClear X ρ h c.argTypes.toList c.args.toList) := by
  unfold oClear
  split
  · rename_i t ts hts
    split
    · rename_i x hargs
      have hargs' : c.args = #[x] := Array.ext' (by rw [hargs])
      split
      · rename_i ei hei
        obtain ⟨e, hu, ht⟩ := elemTI_ok hX hei
        split
        · rename_i dv hdv
          have h1 := ev_ok hE hdv
          unfold clearTo
          split
          · rename_i b e0 sz len cap
            simp only [IV] at h1
            obtain ⟨g, cp, hg, he⟩ := h1
            split
            · rename_i hsz
              have hsz : sz = ei.sz := Nat.eq_of_beq_eq_true hsz
              subst hsz
              refine effO_ok fun h' hw => ?_
              have hz0 : IVL γ (cellsA (.v ei.zero)) ei.zero.cells.toList := iv_cellsA (iv_v.2 rfl)
              obtain ⟨g', c', hg', hcl, hfz, h1c, hnx, hst⟩ := wr_ok hw (repZ_ok hz0 len) hs
              rw [hg] at hg'; injection hg' with hg'; injection hg' with hg' _; subst hg'
              have hrs := run_storeCells_cells (P := X.P) g (e0 * ei.sz) (List.replicate len ei.zero.cells.toList).flatten 0 w (by simpa using hcl) (by simpa using hfz) h1c
              simp only [Nat.add_zero] at hrs
              have hzl := zeros_eq (z := ei.zero) len
              refine eff0 (nx := .value undef) (u := undef) (w' := w.setCells g (e0 * ei.sz) (List.replicate len ei.zero.cells.toList).flatten) ?_ (.inl rfl) (iv_v.2 rfl) hnx hst
              cases len with
              | zero => simp [execOp, ho, resolve, hc, invoke, builtin, Builtin.clear_, list0 hts, hargs', he, run_underlying hu, World.setCells, undef]
              | succ len => simp [execOp, ho, resolve, hc, invoke, builtin, Builtin.clear_, list0 hts, hargs', he, run_underlying hu, run_zero' ht, hzl, hrs, undef]
            · trivial
          · have he := iv_v.1 h1
            refine eff0 (nx := .value undef) (u := undef) (w' := w) ?_ (.inl rfl) (iv_v.2 rfl) rfl hs
            simp [execOp, ho, resolve, hc, invoke, builtin, Builtin.clear_, list0 hts, hargs', he, run_underlying hu, undef]
          · simp only [IV] at h1
            obtain ⟨ad, cp, he⟩ := h1
            refine eff0 (nx := .value undef) (u := undef) (w' := w) ?_ (.inl rfl) (iv_v.2 rfl) rfl hs
            simp [execOp, ho, resolve, hc, invoke, builtin, Builtin.clear_, list0 hts, hargs', he, run_underlying hu, undef]
          · trivial
        · trivial
      · trivial
    · trivial
  · trivial
end
end Go.EV
