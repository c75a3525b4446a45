/- Texts of this claim's, joined by a program: OOrdP, OOrdQ. -/
import Derived.Lib.SlicesCompact
section
namespace Go.Proofs.Ytdhnjecbdclmaaa
set_option linter.unusedVariables false
set_option linter.unusedSimpArgs false
def Grows (n : Nat) (R : Nat → Nat → Bool) (rk : Nat → Nat) : Prop := (∀ a b, a < n → b < n → R a b = true → rk a < rk b) ∧ ∀ b, b < n → rk b < n
section
variable {n : Nat} {R : Nat → Nat → Bool} {w P : Nat → Int} (hw : ∀ a, a < n → 0 ≤ w a) (hP : ∀ a b, a < n → b < n → R a b = true → P a + w a ≤ P b)
include hw hP
end
def closeRow (R : Nat → Nat → Bool) (k a : Nat) : Nat → Nat → Bool := fun x y => if x = a then R a y || (R a k && R k y) else R x y
def closeA (R : Nat → Nat → Bool) (k : Nat) : Nat → Nat → Nat → Bool
  | 0 => R
  | a + 1 => closeRow (closeA R k a) k a
def closeK (n : Nat) (R : Nat → Nat → Bool) : Nat → Nat → Nat → Bool
  | 0 => R
  | k + 1 => closeA (closeK n R k) k n
def closeB (n : Nat) (R : Nat → Nat → Bool) : Nat → Nat → Bool := closeK n R n
theorem close_grows {n : Nat} {f : Nat → Nat} : ∀ {R : Nat → Nat → Bool}, (∀ a b, a < n → b < n → R a b = true → f a < f b) → ∀ a b, a < n → b < n → closeB n R a b = true → f a < f b := by
  intro R h
  have hrow : ∀ S : Nat → Nat → Bool, (∀ a b, a < n → b < n → S a b = true → f a < f b) → ∀ k a, k < n → a < n → ∀ x y, x < n → y < n → closeRow S k a x y = true → f x < f y := by
    intro S hS k a hk ha x y hx hy hc
    unfold closeRow at hc
    split at hc
    · rename_i e
      subst e
      rw [Bool.or_eq_true, Bool.and_eq_true] at hc
      rcases hc with hc | ⟨h1, h2⟩
      · exact hS x y hx hy hc
      · exact Nat.lt_trans (hS x k hx hk h1) (hS k y hk hy h2)
    · exact hS x y hx hy hc
  have hA : ∀ S : Nat → Nat → Bool, (∀ a b, a < n → b < n → S a b = true → f a < f b) → ∀ k, k < n → ∀ m, m ≤ n → ∀ x y, x < n → y < n → closeA S k m x y = true → f x < f y := by
    intro S hS k hk m
    induction m with
    | zero => intro _; exact hS
    | succ m ih => intro hm; exact hrow _ (ih (by omega)) k m hk (by omega)
  have hK : ∀ m, m ≤ n → ∀ x y, x < n → y < n → closeK n R m x y = true → f x < f y := by
    intro m
    induction m with
    | zero => intro _; exact h
    | succ m ih => intro hm; exact hA _ (ih (by omega)) m (by omega) n (Nat.le_refl _)
  exact hK n (Nat.le_refl _)
theorem closeA_eq (S : Nat → Nat → Bool) (k : Nat) : ∀ m x y, closeA S k m x y = if x < m then S x y || (S x k && S k y) else S x y := by
  intro m
  induction m with
  | zero => intro x y; rw [if_neg (by omega)]; rfl
  | succ m ih =>
    intro x y
    show closeRow (closeA S k m) k m x y = _
    unfold closeRow
    by_cases e : x = m
    · subst e
      rw [if_pos rfl, if_pos (by omega), ih x y, ih x k, ih k y, if_neg (by omega), if_neg (by omega)]
      by_cases hk : k < x
      · rw [if_pos hk]
        cases S x k <;> cases S k k <;> cases S k y <;> simp
      · rw [if_neg hk]
    · rw [if_neg e, ih x y]
      by_cases h1 : x < m
      · rw [if_pos h1, if_pos (by omega)]
      · rw [if_neg h1, if_neg (by omega)]
theorem closeK_sub (n : Nat) (R : Nat → Nat → Bool) {x y : Nat} (h : R x y = true) : ∀ k, closeK n R k x y = true := by
  intro k
  induction k with
  | zero => exact h
  | succ k ih =>
    show closeA (closeK n R k) k n x y = true
    rw [closeA_eq]
    split
    · rw [ih, Bool.true_or]
    · exact ih
theorem closeK_via (n : Nat) (R : Nat → Nat → Bool) : ∀ k, k ≤ n → ∀ m, m < k → ∀ x y, x < n → closeK n R k x m = true → closeK n R k m y = true → closeK n R k x y = true := by
  intro k
  induction k with
  | zero => intro _ m h; omega
  | succ k ih =>
    intro hk m hm x y hx h1 h2
    have hmn : m < n := by omega
    have hkn : k < n := by omega
    have ihh := ih (by omega)
    change closeA (closeK n R k) k n x m = true at h1
    change closeA (closeK n R k) k n m y = true at h2
    show closeA (closeK n R k) k n x y = true
    rw [closeA_eq, if_pos hx] at h1 ⊢
    rw [closeA_eq, if_pos hmn] at h2
    simp only [Bool.or_eq_true, Bool.and_eq_true] at h1 h2 ⊢
    by_cases e : m = k
    · subst e
      have g1 : closeK n R m x m = true := h1.elim id fun h => h.1
      have g2 : closeK n R m m y = true := h2.elim id fun h => h.2
      exact .inr ⟨g1, g2⟩
    · have hmk : m < k := by omega
      rcases h1 with h1 | ⟨a1, a2⟩
      · rcases h2 with h2 | ⟨b1, b2⟩
        · exact .inl (ihh m hmk x y hx h1 h2)
        · exact .inr ⟨ihh m hmk x k hx h1 b1, b2⟩
      · rcases h2 with h2 | ⟨b1, b2⟩
        · exact .inr ⟨a1, ihh m hmk k y hkn a2 h2⟩
        · exact .inr ⟨a1, b2⟩
theorem closeB_sub {n : Nat} {R : Nat → Nat → Bool} {x y : Nat} (h : R x y = true) : closeB n R x y = true := closeK_sub n R h n
theorem closeB_trans {n : Nat} {R : Nat → Nat → Bool} {x m y : Nat} (hx : x < n) (hm : m < n) (h1 : closeB n R x m = true) (h2 : closeB n R m y = true) : closeB n R x y = true := closeK_via n R n (Nat.le_refl _) m hm x y hx h1 h2
end Go.Proofs.Ytdhnjecbdclmaaa
end
section
namespace Go.Proofs.Ytdhnjecbdclmaaa
set_option linter.unusedVariables false
set_option linter.unusedSimpArgs false
set_option linter.unusedSectionVars false
def EqR (n : Nat) (R S : Nat → Nat → Bool) : Prop := ∀ x y, x < n → y < n → R x y = S x y
theorem closeA_cong {n : Nat} {R S : Nat → Nat → Bool} (h : EqR n R S) {k : Nat} (hk : k < n) (m : Nat) : EqR n (closeA R k m) (closeA S k m) := by
  intro x y hx hy
  rw [closeA_eq, closeA_eq, h x y hx hy, h x k hx hk, h k y hk hy]
theorem grows_rank {n : Nat} {R : Nat → Nat → Bool} {f : Nat → Nat} (h : ∀ a b, a < n → b < n → R a b = true → f a < f b) : Grows n R (fun b => ((List.range n).filter fun a => decide (f a < f b)).length) := by
  refine ⟨fun a b ha hb hr => ?_, fun b hb => ?_⟩
  · have hlt := h a b ha hb hr
    have gen : ∀ l : List Nat, a ∈ l → (l.filter fun x => decide (f x < f a)).length < (l.filter fun x => decide (f x < f b)).length := by
      intro l
      induction l with
      | nil => intro hm; cases hm
      | cons y l ih =>
        intro hm
        have le : ∀ l : List Nat, (l.filter fun x => decide (f x < f a)).length ≤ (l.filter fun x => decide (f x < f b)).length := by
          intro l
          induction l with
          | nil => exact Nat.le_refl _
          | cons z l ih2 =>
            rw [List.filter_cons, List.filter_cons]
            by_cases hz : f z < f a
            · rw [if_pos (decide_eq_true hz), if_pos (decide_eq_true (Nat.lt_trans hz hlt))]
              simpa using ih2
            · rw [if_neg (by simpa using hz)]
              split
              · exact Nat.le_succ_of_le ih2
              · exact ih2
        rw [List.filter_cons, List.filter_cons]
        rcases List.mem_cons.1 hm with e | hm
        · subst e
          rw [if_neg (by simp), if_pos (decide_eq_true hlt)]
          exact Nat.lt_succ_of_le (le l)
        · have i := ih hm
          by_cases hz : f y < f a
          · rw [if_pos (decide_eq_true hz), if_pos (decide_eq_true (Nat.lt_trans hz hlt))]
            simpa using i
          · rw [if_neg (by simpa using hz)]
            split
            · exact Nat.lt_succ_of_lt i
            · exact i
    exact gen (List.range n) (List.mem_range.2 ha)
  · have gen : ∀ l : List Nat, b ∈ l → (l.filter fun x => decide (f x < f b)).length < l.length := by
      intro l
      induction l with
      | nil => intro hm; cases hm
      | cons y l ih =>
        intro hm
        rw [List.filter_cons]
        rcases List.mem_cons.1 hm with e | hm
        · subst e
          rw [if_neg (by simp)]
          exact Nat.lt_succ_of_le (List.length_filter_le _ _)
        · split
          · exact Nat.succ_lt_succ (ih hm)
          · exact Nat.lt_succ_of_lt (ih hm)
    have := gen (List.range n) (List.mem_range.2 hb)
    rwa [List.length_range] at this
end Go.Proofs.Ytdhnjecbdclmaaa
end
