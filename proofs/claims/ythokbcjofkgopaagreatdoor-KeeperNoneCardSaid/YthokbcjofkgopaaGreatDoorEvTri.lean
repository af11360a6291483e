/-
  The tries of the runner: what is read behind a write.
-/
import Derived.Test.YthokbcjofkgopaaGreatDoorEvDef
namespace Go.EV
open Go

theorem Tr.get_e {α : Type} (k : Nat) : (Tr.e : Tr α).get k = none := rfl
theorem Tr.get_n {α : Type} (l r : Tr α) (v : Option α) (k : Nat) : (Tr.n l v r).get k = if k = 1 then v else if k % 2 = 0 then l.get (k / 2) else r.get (k / 2) := by
  show Bool.rec (motive := fun _ => Option α) (Nat.rec (motive := fun _ => Option α) (l.get (Nat.div k 2)) (fun _ _ => r.get (Nat.div k 2)) (Nat.mod k 2)) v (Nat.beq k 1) = _
  by_cases h : k = 1
  · subst h; rfl
  · have hb : Nat.beq k 1 = false := by
      cases hb : Nat.beq k 1 with
      | false => rfl
      | true => exact absurd (Nat.eq_of_beq_eq_true hb) h
    rw [hb, if_neg h]
    show Nat.rec (motive := fun _ => Option α) (l.get (k / 2)) (fun _ _ => r.get (k / 2)) (k % 2) = _
    rcases Nat.mod_two_eq_zero_or_one k with h2 | h2
    · rw [h2, if_pos rfl]; rfl
    · rw [h2, if_neg (by decide)]; rfl
theorem Tr.set_e {α : Type} (x : Option α) (f k : Nat) : Tr.set x (f + 1) .e k = if k = 1 then .n .e x .e else if k % 2 = 0 then .n (Tr.set x f .e (k / 2)) none .e else .n .e none (Tr.set x f .e (k / 2)) := by
  show Bool.rec (motive := fun _ => Tr α) (Nat.rec (motive := fun _ => Tr α) (.n (Tr.set x f .e (Nat.div k 2)) none .e) (fun _ _ => .n .e none (Tr.set x f .e (Nat.div k 2))) (Nat.mod k 2)) (.n .e x .e) (Nat.beq k 1) = _
  by_cases h : k = 1
  · subst h; rfl
  · have hb : Nat.beq k 1 = false := by
      cases hb : Nat.beq k 1 with
      | false => rfl
      | true => exact absurd (Nat.eq_of_beq_eq_true hb) h
    rw [hb, if_neg h]
    show Nat.rec (motive := fun _ => Tr α) (Tr.n (Tr.set x f .e (k / 2)) none .e) (fun _ _ => .n .e none (Tr.set x f .e (k / 2))) (k % 2) = _
    rcases Nat.mod_two_eq_zero_or_one k with h2 | h2
    · rw [h2, if_pos rfl]; rfl
    · rw [h2, if_neg (by decide)]; rfl
theorem Tr.set_n {α : Type} (x : Option α) (f k : Nat) (l r : Tr α) (v : Option α) : Tr.set x (f + 1) (.n l v r) k = if k = 1 then .n l x r else if k % 2 = 0 then .n (Tr.set x f l (k / 2)) v r else .n l v (Tr.set x f r (k / 2)) := by
  show Bool.rec (motive := fun _ => Tr α) (Nat.rec (motive := fun _ => Tr α) (.n (Tr.set x f l (Nat.div k 2)) v r) (fun _ _ => .n l v (Tr.set x f r (Nat.div k 2))) (Nat.mod k 2)) (.n l x r) (Nat.beq k 1) = _
  by_cases h : k = 1
  · subst h; rfl
  · have hb : Nat.beq k 1 = false := by
      cases hb : Nat.beq k 1 with
      | false => rfl
      | true => exact absurd (Nat.eq_of_beq_eq_true hb) h
    rw [hb, if_neg h]
    show Nat.rec (motive := fun _ => Tr α) (Tr.n (Tr.set x f l (k / 2)) v r) (fun _ _ => .n l v (Tr.set x f r (k / 2))) (k % 2) = _
    rcases Nat.mod_two_eq_zero_or_one k with h2 | h2
    · rw [h2, if_pos rfl]; rfl
    · rw [h2, if_neg (by decide)]; rfl

theorem Tr.get_set {α : Type} (x : Option α) : ∀ (f : Nat) (t : Tr α) (k k' : Nat), 1 ≤ k → k ≤ f → 1 ≤ k' → (Tr.set x f t k).get k' = if k' = k then x else t.get k' := by
  intro f
  induction f with
  | zero => intro t k k' h1 h2; omega
  | succ f ih =>
    intro t k k' h1 h2 h3
    cases t with
    | e =>
      rw [Tr.set_e]
      by_cases hk : k = 1
      · rw [if_pos hk, Tr.get_n]
        subst hk
        by_cases hk' : k' = 1
        · simp [hk']
        · simp [hk', Tr.get_e]
      · rw [if_neg hk]
        by_cases he : k % 2 = 0
        · rw [if_pos he, Tr.get_n]
          by_cases hk' : k' = 1
          · rw [if_pos hk', if_neg (by omega)]; rfl
          · rw [if_neg hk']
            by_cases he' : k' % 2 = 0
            · rw [if_pos he', ih _ _ _ (by omega) (by omega) (by omega)]
              by_cases hh : k' = k
              · subst hh; simp
              · rw [if_neg hh, if_neg (by omega)]; rfl
            · rw [if_neg he', if_neg (by rintro rfl; exact he' he)]; rfl
        · rw [if_neg he, Tr.get_n]
          by_cases hk' : k' = 1
          · rw [if_pos hk', if_neg (by omega)]; rfl
          · rw [if_neg hk']
            by_cases he' : k' % 2 = 0
            · rw [if_pos he', if_neg (by rintro rfl; exact he he')]; rfl
            · rw [if_neg he', ih _ _ _ (by omega) (by omega) (by omega)]
              by_cases hh : k' = k
              · subst hh; simp
              · rw [if_neg hh, if_neg (by omega)]; rfl
    | n l v r =>
      rw [Tr.set_n]
      by_cases hk : k = 1
      · rw [if_pos hk, Tr.get_n, Tr.get_n]
        subst hk
        by_cases hk' : k' = 1
        · simp [hk']
        · simp [hk']
      · rw [if_neg hk]
        by_cases he : k % 2 = 0
        · rw [if_pos he, Tr.get_n, Tr.get_n]
          by_cases hk' : k' = 1
          · rw [if_pos hk', if_neg (by omega), if_pos hk']
          · rw [if_neg hk', if_neg hk']
            by_cases he' : k' % 2 = 0
            · rw [if_pos he', if_pos he', ih _ _ _ (by omega) (by omega) (by omega)]
              by_cases hh : k' = k
              · subst hh; simp
              · rw [if_neg hh, if_neg (by omega)]
            · rw [if_neg he', if_neg he', if_neg (by rintro rfl; exact he' he)]
        · rw [if_neg he, Tr.get_n, Tr.get_n]
          by_cases hk' : k' = 1
          · rw [if_pos hk', if_neg (by omega), if_pos hk']
          · rw [if_neg hk', if_neg hk']
            by_cases he' : k' % 2 = 0
            · rw [if_pos he', if_pos he', if_neg (by rintro rfl; exact he he')]
            · rw [if_neg he', if_neg he', ih _ _ _ (by omega) (by omega) (by omega)]
              by_cases hh : k' = k
              · subst hh; simp
              · rw [if_neg hh, if_neg (by omega)]

theorem tget_tset {α : Type} (t : Tr α) (k k' : Nat) (x : Option α) : tget (tset t k x) k' = if k' = k then x else tget t k' := by
  show (Tr.set x (k + 1) t (k + 1)).get (k' + 1) = _
  rw [Tr.get_set x _ _ _ _ (by omega) (by omega) (by omega)]
  by_cases h : k' = k
  · subst h; simp
  · rw [if_neg (by omega), if_neg h]; rfl
theorem tget_e {α : Type} (k : Nat) : tget (Tr.e : Tr α) k = none := rfl
end Go.EV
