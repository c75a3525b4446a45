/- Neighbours are told by walls and their ends, in plain Lean: pairs of neighbours are counted by the places where they begin to lie beside each other. -/
import Derived.Test.YtbpppchkgjcahaaKFSpecNear
import Derived.Test.YtbpppchkgjcahaaKFFourDM
namespace Go.Proofs.Ytbpppchkgjcahaa
open Go.RowKit Go.Shelf Go.Proofs.YtbpppchkgjcahaaW.PrintWords Go.Proofs.YtbpppchkgjcahaaW.PrintMore
set_option linter.unusedVariables false
set_option linter.unusedSimpArgs false
abbrev StartV (cl : Nat → Nat → Int) (x y : Int) (i j : Nat) : Prop := (cl i j = x ∧ cl i (1 + j) = y) ∧ (i = 0 ∨ ¬ (cl (i - 1) j = x ∧ cl (i - 1) (1 + j) = y))
def swapC (cl : Nat → Nat → Int) : Nat → Nat → Int := fun i j => cl j i
def segI (cl : Nat → Nat → Int) (i j : Nat) : Nat := if cl i j ≠ cl i (1 + j) ∧ (i = 0 ∨ ¬ (cl (i - 1) j = cl i j ∧ cl (i - 1) (1 + j) = cl i (1 + j))) then 1 else 0
def segV (cl : Nat → Nat → Int) (h wd : Nat) : Nat := sumTo (fun j => sumTo (fun i => segI cl i j) h) (wd - 1)
def tV (cl : Nat → Nat → Int) (i j : Nat) : Nat := if cl i j ≠ cl i (1 + j) ∧ cl (1 + i) j ≠ cl (1 + i) (1 + j) ∧ ¬ (cl i j = cl (1 + i) j ∧ cl i (1 + j) = cl (1 + i) (1 + j)) then 1 else 0
theorem b1_two (p q r s : Int) : b1 (r != s && !(p != q)) = if r ≠ s ∧ p = q then 1 else 0 := by
  unfold b1
  by_cases c1 : r = s <;> by_cases c2 : p = q <;> simp [c1, c2]
theorem seg_step (k : Nat) (p q r s : Int) : (if r ≠ s ∧ (1 + k = 0 ∨ ¬ (p = r ∧ q = s)) then 1 else 0) = (if r ≠ s ∧ p = q then 1 else 0) + (if p ≠ q ∧ r ≠ s ∧ ¬ (p = r ∧ q = s) then 1 else 0) := by
  split <;> split <;> split <;> omega
theorem pt_four (a b c d : Int) (q1 : a = d → b = d ∧ c = d) (q2 : b = c → a = c ∧ d = c) : (if a ≠ b ∧ c ≠ d ∧ ¬ (a = c ∧ b = d) then 1 else 0) + (if a ≠ c ∧ b ≠ d ∧ ¬ (a = b ∧ c = d) then 1 else 0) = (if (((firsts4 a b c d).length : Nat) : Int) = 3 then 1 else 0) + 2 * (if (((firsts4 a b c d).length : Nat) : Int) = 4 then 1 else 0) := by
  have hl := firsts4_len a b c d
  have k1 : ((if b = a then 0 else 1) = 0 ∧ b = a) ∨ ((if b = a then 0 else 1) = 1 ∧ b ≠ a) := by by_cases h : b = a <;> simp [h]
  have k2 : ((if c = a ∨ c = b then 0 else 1) = 0 ∧ (c = a ∨ c = b)) ∨ ((if c = a ∨ c = b then 0 else 1) = 1 ∧ ¬ (c = a ∨ c = b)) := by by_cases h : c = a ∨ c = b <;> simp [h]
  have k3 : ((if d = a ∨ d = b ∨ d = c then 0 else 1) = 0 ∧ (d = a ∨ d = b ∨ d = c)) ∨ ((if d = a ∨ d = b ∨ d = c then 0 else 1) = 1 ∧ ¬ (d = a ∨ d = b ∨ d = c)) := by by_cases h : d = a ∨ d = b ∨ d = c <;> simp [h]
  generalize (if b = a then 0 else 1) = x1 at hl k1
  generalize (if c = a ∨ c = b then 0 else 1) = x2 at hl k2
  generalize (if d = a ∨ d = b ∨ d = c then 0 else 1) = x3 at hl k3
  generalize (firsts4 a b c d).length = l at hl ⊢
  split <;> split <;> split <;> split <;> omega
theorem seg_run (cl : Nat → Nat → Int) (j : Nat) : ∀ {h : Nat}, 1 ≤ h → sumTo (fun i => segI cl i j) h = (runs (dV cl (1 + j)) none 0 h).length + sumTo (fun i => tV cl i j) (h - 1) := by
  intro h hh
  obtain ⟨d, rfl⟩ : ∃ d, h = d + 1 := ⟨h - 1, by omega⟩
  rw [runs_len, starts_sum, sumTo_head, sumTo_head]
  have e0 : segI cl 0 j = b1 (dV cl (1 + j) (0 + 0) && !(if (0 : Nat) = 0 then (none : Option Nat).isSome else dV cl (1 + j) (0 + 0 - 1))) := by
    unfold segI dV b1
    rw [show 1 + j - 1 = j by omega]
    by_cases c : cl 0 j = cl 0 (1 + j) <;> simp [c]
  have e1 : sumTo (fun k => segI cl (k + 1) j) d = sumTo (fun k => b1 (dV cl (1 + j) (0 + (k + 1)) && !(if (k + 1) = 0 then (none : Option Nat).isSome else dV cl (1 + j) (0 + (k + 1) - 1)))) d + sumTo (fun i => tV cl i j) d := by
    rw [← sumTo_plus]
    refine sumTo_same fun k _ => ?_
    unfold segI tV dV
    rw [if_neg (Nat.succ_ne_zero k), show 1 + j - 1 = j by omega, show 0 + (k + 1) - 1 = k by omega, show 0 + (k + 1) = 1 + k by omega, show k + 1 = 1 + k by omega, show 1 + k - 1 = k by omega, b1_two]
    exact seg_step k _ _ _ _
  rw [e1, e0]
  show _ = _ + b1 (none : Option Nat).isSome + _
  rw [show b1 (none : Option Nat).isSome = 0 from rfl, show d + 1 - 1 = d by omega]
  omega
theorem segV_up (cl : Nat → Nat → Int) {h wd : Nat} (hh : 1 ≤ h) : segV cl h wd = upN cl h wd + sumTo (fun j => sumTo (fun i => tV cl i j) (h - 1)) (wd - 1) := by
  unfold segV upN
  rw [← sumTo_plus]
  exact sumTo_same fun j _ => seg_run cl j hh
theorem upN_swap (cl : Nat → Nat → Int) (h wd : Nat) : upN (swapC cl) wd h = lvN cl h wd := by
  unfold upN lvN
  exact sumTo_same fun y _ => by
    congr 2
theorem tV_point {cl : Nat → Nat → Int} {boxes : List Box} {h wd : Nat} (f : Flat cl boxes h wd) {i j : Nat} (hi : 1 + i < h) (hj : 1 + j < wd) : tV cl i j + tV (swapC cl) j i = ptI cl 3 (1 + i) (1 + j) + 2 * ptI cl 4 (1 + i) (1 + j) := by
  obtain ⟨q1, q2⟩ := flat_sq f (show 1 ≤ 1 + i ∧ 1 + i < h by omega) (show 1 ≤ 1 + j ∧ 1 + j < wd by omega)
  unfold tV ptI meets swapC
  rw [show 1 + i - 1 = i by omega, show 1 + j - 1 = j by omega] at q1 q2
  rw [show 1 + i - 1 = i by omega, show 1 + j - 1 = j by omega]
  exact pt_four _ _ _ _ q1 q2
theorem segN_points {cl : Nat → Nat → Int} {boxes : List Box} {h wd : Nat} (f : Flat cl boxes h wd) : segV cl h wd + segV (swapC cl) wd h = upN cl h wd + lvN cl h wd + allPts cl wd 3 1 (h - 1) + 2 * allPts cl wd 4 1 (h - 1) := by
  rw [segV_up cl f.high.1, segV_up (swapC cl) f.wide.1, upN_swap, allPts_sum, allPts_sum]
  have e : sumTo (fun j => sumTo (fun i => tV cl i j) (h - 1)) (wd - 1) + sumTo (fun j => sumTo (fun i => tV (swapC cl) i j) (wd - 1)) (h - 1) = sumTo (fun y => sumTo (fun x => ptI cl 3 (1 + y) (1 + x)) (wd - 1)) (h - 1) + 2 * sumTo (fun y => sumTo (fun x => ptI cl 4 (1 + y) (1 + x)) (wd - 1)) (h - 1) := by
    rw [sumTo_swap (fun j i => tV cl i j) (h - 1) (wd - 1), ← sumTo_plus, ← sumTo_mul, ← sumTo_plus]
    refine sumTo_same fun i hi => ?_
    rw [← sumTo_plus, ← sumTo_mul, ← sumTo_plus]
    exact sumTo_same fun j hj => tV_point f (by omega) (by omega)
  omega
theorem tri_sum (X Y : Nat) (S : Prop) [Decidable S] (n : Nat) : sumTo (fun a => sumTo (fun b => if (X = a ∧ Y = b) ∧ S then 1 else 0) a) n = if (Y < X ∧ X < n) ∧ S then 1 else 0 := by
  by_cases hs : S
  · have inner : ∀ a, sumTo (fun b => if (X = a ∧ Y = b) ∧ S then 1 else 0) a = if X = a ∧ Y < X then 1 else 0 := by
      intro a
      rw [sumTo_only (P := fun b => (X = a ∧ Y = b) ∧ S) (k0 := Y) (fun k hk => hk.1.2.symm) a]
      by_cases c : X = a
      · subst c; simp [hs]
      · simp [c]
    rw [sumTo_same fun a _ => inner a, sumTo_only (P := fun a => X = a ∧ Y < X) (k0 := X) (fun k hk => hk.1.symm) n]
    by_cases c1 : Y < X <;> by_cases c2 : X < n <;> simp [c1, c2, hs]
  · have inner : ∀ a, sumTo (fun b => if (X = a ∧ Y = b) ∧ S then 1 else 0) a = 0 := by
      intro a
      rw [sumTo_same (g := fun _ => 0) fun b _ => if_neg fun h => hs h.2, sumTo_nil]
    rw [sumTo_same fun a _ => inner a, sumTo_nil, if_neg fun h => hs h.2]
def i1 (P : Prop) [Decidable P] : Nat := if P then 1 else 0
theorem seg_pairs (cl : Nat → Nat → Int) (n i j X Y : Nat) (hX : X < n) (hY : Y < n) (e1 : cl i j = (X : Int)) (e2 : cl i (1 + j) = (Y : Int)) :
    segI cl i j = sumTo (fun a => sumTo (fun b => i1 (StartV cl (a : Int) (b : Int) i j) + i1 (StartV cl (b : Int) (a : Int) i j)) a) n := by
  have hsame : ∀ a b : Nat, StartV cl (a : Int) (b : Int) i j ↔ (X = a ∧ Y = b) ∧ (i = 0 ∨ ¬ (cl (i - 1) j = (X : Int) ∧ cl (i - 1) (1 + j) = (Y : Int))) := by
    intro a b
    unfold StartV
    rw [e1, e2]
    constructor
    · rintro ⟨⟨h1, h2⟩, h3⟩
      have h1 := Int.ofNat.inj h1
      have h2 := Int.ofNat.inj h2
      subst h1 h2
      exact ⟨⟨rfl, rfl⟩, h3⟩
    · rintro ⟨⟨h1, h2⟩, h3⟩
      subst h1 h2
      exact ⟨⟨rfl, rfl⟩, h3⟩
  have t1 := tri_sum X Y (i = 0 ∨ ¬ (cl (i - 1) j = (X : Int) ∧ cl (i - 1) (1 + j) = (Y : Int))) n
  have t2 := tri_sum Y X (i = 0 ∨ ¬ (cl (i - 1) j = (X : Int) ∧ cl (i - 1) (1 + j) = (Y : Int))) n
  have e : sumTo (fun a => sumTo (fun b => i1 (StartV cl (a : Int) (b : Int) i j) + i1 (StartV cl (b : Int) (a : Int) i j)) a) n = sumTo (fun a => sumTo (fun b => if (X = a ∧ Y = b) ∧ (i = 0 ∨ ¬ (cl (i - 1) j = (X : Int) ∧ cl (i - 1) (1 + j) = (Y : Int))) then 1 else 0) a) n + sumTo (fun a => sumTo (fun b => if (Y = a ∧ X = b) ∧ (i = 0 ∨ ¬ (cl (i - 1) j = (X : Int) ∧ cl (i - 1) (1 + j) = (Y : Int))) then 1 else 0) a) n := by
    rw [← sumTo_plus]
    refine sumTo_same fun a _ => ?_
    rw [← sumTo_plus]
    refine sumTo_same fun b _ => ?_
    unfold i1
    congr 1
    · simp only [hsame a b]
    · simp only [hsame b a, and_comm (a := X = b) (b := Y = a)]
  rw [e, t1, t2]
  unfold segI
  rw [e1, e2]
  by_cases c : X = Y
  · subst c; simp
  · have hne : (X : Int) ≠ (Y : Int) := fun h => c (Int.ofNat.inj h)
    by_cases s : (i = 0 ∨ ¬ (cl (i - 1) j = (X : Int) ∧ cl (i - 1) (1 + j) = (Y : Int)))
    · rw [if_pos ⟨hne, s⟩]
      by_cases l : Y < X
      · rw [if_pos ⟨⟨l, hX⟩, s⟩, if_neg (fun h => by have := h.1.1; omega)]
      · rw [if_neg (fun h => l h.1.1), if_pos ⟨⟨by omega, hY⟩, s⟩]
    · rw [if_neg (fun h => s h.2), if_neg (fun h => s h.2), if_neg (fun h => s h.2)]
theorem sumTo_count (P : Nat → Bool) (nb : Nat → Nat → Bool) (a : Nat) : ∀ k, (nearTo nb a k).length = sumTo (fun b => b1 (nb a b)) k := by
  intro k
  induction k with
  | zero => rfl
  | succ k ih =>
    rw [nearTo_succ]
    unfold sumTo
    rw [← ih]
    cases nb a k <;> simp [b1]
theorem pairN_sum (nb : Nat → Nat → Bool) : ∀ n, pairN nb n = sumTo (fun a => sumTo (fun b => b1 (nb a b)) a) n := by
  intro n
  induction n with
  | zero => rfl
  | succ n ih =>
    rw [pairN_succ, ih, sumTo_count (fun _ => true)]
    rfl
theorem two_only {h m : Nat} {P : Nat → Nat → Prop} [∀ i j, Decidable (P i j)] (hu : ∀ i j i' j', i < h → j < m → i' < h → j' < m → P i j → P i' j' → i = i' ∧ j = j') : sumTo (fun j => sumTo (fun i => i1 (P i j)) h) m = @ite _ (∃ i j, i < h ∧ j < m ∧ P i j) (Classical.propDecidable _) 1 0 := by
  have e : sumTo (fun j => sumTo (fun i => i1 (P i j)) h) m = sumTo (fun j => sumTo (fun i => if (i < h ∧ j < m) ∧ P i j then 1 else 0) h) m := sumTo_same fun j hj => sumTo_same fun i hi => by
    unfold i1
    simp [hi, hj]
  rw [e]
  by_cases hex : ∃ i j, i < h ∧ j < m ∧ P i j
  · rw [if_pos hex]
    obtain ⟨i0, j0, hi0, hj0, hP⟩ := hex
    have inner : ∀ j, sumTo (fun i => if (i < h ∧ j < m) ∧ P i j then 1 else 0) h = if j < m ∧ P i0 j then 1 else 0 := by
      intro j
      rw [sumTo_only (P := fun i => (i < h ∧ j < m) ∧ P i j) (k0 := i0) (fun k hk => (hu k j i0 j0 hk.1.1 hk.1.2 hi0 hj0 hk.2 hP).1) h]
      simp [hi0]
    rw [sumTo_same fun j _ => inner j, sumTo_only (P := fun j => j < m ∧ P i0 j) (k0 := j0) (fun k hk => (hu i0 k i0 j0 hi0 hk.1 hi0 hj0 hk.2 hP).2) m]
    simp [hj0, hP]
  · rw [if_neg hex]
    rw [sumTo_same (g := fun _ => 0) fun j hj => by
      rw [sumTo_same (g := fun _ => 0) fun i hi => if_neg fun hh => hex ⟨i, j, hi, hj, hh.2⟩, sumTo_nil], sumTo_nil]
theorem start_some {cl : Nat → Nat → Int} {x y : Int} {j : Nat} : ∀ {i : Nat}, cl i j = x → cl i (1 + j) = y → ∃ i0, i0 ≤ i ∧ StartV cl x y i0 j := by
  intro i
  induction i with
  | zero => intro h1 h2; exact ⟨0, Nat.le_refl _, ⟨h1, h2⟩, .inl rfl⟩
  | succ i ih =>
    intro h1 h2
    by_cases c : cl i j = x ∧ cl i (1 + j) = y
    · obtain ⟨i0, k1, k2⟩ := ih c.1 c.2
      exact ⟨i0, by omega, k2⟩
    · exact ⟨i + 1, Nat.le_refl _, ⟨h1, h2⟩, .inr c⟩
def VS (cl : Nat → Nat → Int) (h wd : Nat) (x y : Int) : Prop := ∃ i j, i < h ∧ j < wd - 1 ∧ StartV cl x y i j
section
variable {cl : Nat → Nat → Int} {boxes : List Box} {h wd : Nat}
structure RoomB (cl : Nat → Nat → Int) (h wd : Nat) (x : Int) (a b c d : Nat) : Prop where
  at_ : ∀ i j, i < h → j < wd → (cl i j = x ↔ (a ≤ i ∧ i < a + c) ∧ (b ≤ j ∧ j < b + d))
theorem RoomB.swap {x : Int} {a b c d : Nat} (r : RoomB cl h wd x a b c d) : RoomB (swapC cl) wd h x b a d c := ⟨fun i j hi hj => (r.at_ j i hj hi).trans ⟨fun hh => ⟨hh.2, hh.1⟩, fun hh => ⟨hh.2, hh.1⟩⟩⟩
theorem start_in {x y : Int} {a b c d a' b' c' d' i j : Nat} (hx : RoomB cl h wd x a b c d) (hy : RoomB cl h wd y a' b' c' d') (hne : x ≠ y) (hi : i < h) (hj : j < wd - 1) (hs : StartV cl x y i j) :
    1 + j = b + d ∧ b' = 1 + j ∧ (a ≤ i ∧ i < a + c) ∧ (a' ≤ i ∧ i < a' + c') ∧ (i = 0 ∨ i = a ∨ i = a') ∧ 1 ≤ d ∧ 1 ≤ d' := by
  obtain ⟨⟨h1, h2⟩, h3⟩ := hs
  have m1 := (hx.at_ i j hi (by omega)).1 h1
  have m2 := (hy.at_ i (1 + j) hi (by omega)).1 h2
  have n1 : ¬ ((a ≤ i ∧ i < a + c) ∧ (b ≤ 1 + j ∧ 1 + j < b + d)) := fun hh => by
    have := (hx.at_ i (1 + j) hi (by omega)).2 hh
    rw [h2] at this; exact hne this.symm
  have n2 : ¬ ((a' ≤ i ∧ i < a' + c') ∧ (b' ≤ j ∧ j < b' + d')) := fun hh => by
    have := (hy.at_ i j hi (by omega)).2 hh
    rw [h1] at this; exact hne this
  have n3 : i = 0 ∨ ¬ (((a ≤ i - 1 ∧ i - 1 < a + c) ∧ (b ≤ j ∧ j < b + d)) ∧ ((a' ≤ i - 1 ∧ i - 1 < a' + c') ∧ (b' ≤ 1 + j ∧ 1 + j < b' + d'))) := h3.imp id fun hh h4 => hh ⟨(hx.at_ (i - 1) j (by omega) (by omega)).2 h4.1, (hy.at_ (i - 1) (1 + j) (by omega) (by omega)).2 h4.2⟩
  refine ⟨by omega, by omega, m1.1, m2.1, by omega, by omega, by omega⟩
theorem start_uniq {x y : Int} {a b c d a' b' c' d' : Nat} (hx : RoomB cl h wd x a b c d) (hy : RoomB cl h wd y a' b' c' d') (hne : x ≠ y) : sumTo (fun j => sumTo (fun i => i1 (StartV cl x y i j)) h) (wd - 1) = @ite _ (VS cl h wd x y) (Classical.propDecidable _) 1 0 := by
  refine two_only fun i j i' j' hi hj hi' hj' h1 h2 => ?_
  obtain ⟨k1, k2, k3, k4, k5, _⟩ := start_in hx hy hne hi hj h1
  obtain ⟨l1, l2, l3, l4, l5, _⟩ := start_in hx hy hne hi' hj' h2
  omega
theorem four_ones (A B C D : Prop) (N : Bool) (key : N = true ↔ (A ∨ B) ∨ (C ∨ D)) (x12 : ¬ (A ∧ B)) (x13 : ¬ (A ∧ C)) (x14 : ¬ (A ∧ D)) (x23 : ¬ (B ∧ C)) (x24 : ¬ (B ∧ D)) (x34 : ¬ (C ∧ D)) :
    @ite Nat A (Classical.propDecidable _) 1 0 + @ite Nat B (Classical.propDecidable _) 1 0 + (@ite Nat C (Classical.propDecidable _) 1 0 + @ite Nat D (Classical.propDecidable _) 1 0) = b1 N := by
  cases N with
  | true =>
    rcases key.1 rfl with (hA | hB) | (hC | hD)
    · rw [if_pos hA, if_neg (fun h => x12 ⟨hA, h⟩), if_neg (fun h => x13 ⟨hA, h⟩), if_neg (fun h => x14 ⟨hA, h⟩)]; rfl
    · rw [if_neg (fun h => x12 ⟨h, hB⟩), if_pos hB, if_neg (fun h => x23 ⟨hB, h⟩), if_neg (fun h => x24 ⟨hB, h⟩)]; rfl
    · rw [if_neg (fun h => x13 ⟨h, hC⟩), if_neg (fun h => x23 ⟨h, hC⟩), if_pos hC, if_neg (fun h => x34 ⟨hC, h⟩)]; rfl
    · rw [if_neg (fun h => x14 ⟨h, hD⟩), if_neg (fun h => x24 ⟨h, hD⟩), if_neg (fun h => x34 ⟨h, hD⟩), if_pos hD]; rfl
  | false =>
    have hn : ¬ ((A ∨ B) ∨ (C ∨ D)) := fun h => by have := key.2 h; cases this
    rw [if_neg (fun h => hn (.inl (.inl h))), if_neg (fun h => hn (.inl (.inr h))), if_neg (fun h => hn (.inr (.inl h))), if_neg (fun h => hn (.inr (.inr h)))]; rfl
theorem pair_once (f : Flat cl boxes h wd) {x y : Nat} (hx : x < boxes.length) (hy : y < boxes.length) (hne : x ≠ y) :
    (sumTo (fun j => sumTo (fun i => i1 (StartV cl (x : Int) (y : Int) i j) + i1 (StartV cl (y : Int) (x : Int) i j)) h) (wd - 1)) + (sumTo (fun j => sumTo (fun i => i1 (StartV (swapC cl) (x : Int) (y : Int) i j) + i1 (StartV (swapC cl) (y : Int) (x : Int) i j)) wd) (h - 1)) = b1 (nbB cl h wd x y) := by
  obtain ⟨a, b, c, d, _, _, _, _, _, hbx⟩ := f.box x hx
  obtain ⟨a', b', c', d', _, _, _, _, _, hby⟩ := f.box y hy
  have rx : RoomB cl h wd (x : Int) a b c d := ⟨hbx⟩
  have ry : RoomB cl h wd (y : Int) a' b' c' d' := ⟨hby⟩
  have hni : (x : Int) ≠ (y : Int) := fun e => hne (Int.ofNat.inj e)
  have split2 : ∀ (F G : Nat → Nat → Nat) (m k : Nat), sumTo (fun j => sumTo (fun i => F i j + G i j) k) m = sumTo (fun j => sumTo (fun i => F i j) k) m + sumTo (fun j => sumTo (fun i => G i j) k) m := fun F G m k => by
    rw [← sumTo_plus]
    exact sumTo_same fun j _ => sumTo_plus _ _ _
  rw [split2, split2, start_uniq rx ry hni, start_uniq ry rx hni.symm, start_uniq rx.swap ry.swap hni, start_uniq ry.swap rx.swap hni.symm]
  have key : nbB cl h wd x y = true ↔ (VS cl h wd x y ∨ VS cl h wd y x) ∨ (VS (swapC cl) wd h x y ∨ VS (swapC cl) wd h y x) := by
    rw [nbB_iff]
    constructor
    · rintro ⟨_, ⟨i, j, h1, h2, ⟨e1, e2⟩ | ⟨e1, e2⟩⟩ | ⟨i, j, h1, h2, ⟨e1, e2⟩ | ⟨e1, e2⟩⟩⟩
      · rw [show j + 1 = 1 + j by omega] at e2
        obtain ⟨i0, k1, k2⟩ := start_some (cl := cl) e1 e2
        exact .inl (.inl ⟨i0, j, by omega, by omega, k2⟩)
      · rw [show j + 1 = 1 + j by omega] at e2
        obtain ⟨i0, k1, k2⟩ := start_some (cl := cl) e1 e2
        exact .inl (.inr ⟨i0, j, by omega, by omega, k2⟩)
      · rw [show i + 1 = 1 + i by omega] at e2
        obtain ⟨i0, k1, k2⟩ := start_some (cl := swapC cl) (i := j) (j := i) e1 e2
        exact .inr (.inl ⟨i0, i, by omega, by omega, k2⟩)
      · rw [show i + 1 = 1 + i by omega] at e2
        obtain ⟨i0, k1, k2⟩ := start_some (cl := swapC cl) (i := j) (j := i) e1 e2
        exact .inr (.inr ⟨i0, i, by omega, by omega, k2⟩)
    · rintro ((⟨i, j, h1, h2, ⟨e1, e2⟩, _⟩ | ⟨i, j, h1, h2, ⟨e1, e2⟩, _⟩) | (⟨i, j, h1, h2, ⟨e1, e2⟩, _⟩ | ⟨i, j, h1, h2, ⟨e1, e2⟩, _⟩))
      · exact ⟨hne, .inl ⟨i, j, h1, by omega, .inl ⟨e1, by rw [show j + 1 = 1 + j by omega]; exact e2⟩⟩⟩
      · exact ⟨hne, .inl ⟨i, j, h1, by omega, .inr ⟨e1, by rw [show j + 1 = 1 + j by omega]; exact e2⟩⟩⟩
      · exact ⟨hne, .inr ⟨j, i, by omega, h1, .inl ⟨e1, by rw [show j + 1 = 1 + j by omega]; exact e2⟩⟩⟩
      · exact ⟨hne, .inr ⟨j, i, by omega, h1, .inr ⟨e1, by rw [show j + 1 = 1 + j by omega]; exact e2⟩⟩⟩
  have v1 : ∀ i j, i < h → j < wd - 1 → StartV cl (x : Int) (y : Int) i j → _ := fun i j hi hj hs => start_in rx ry hni hi hj hs
  have v2 : ∀ i j, i < h → j < wd - 1 → StartV cl (y : Int) (x : Int) i j → _ := fun i j hi hj hs => start_in ry rx hni.symm hi hj hs
  have v3 : ∀ i j, i < wd → j < h - 1 → StartV (swapC cl) (x : Int) (y : Int) i j → _ := fun i j hi hj hs => start_in rx.swap ry.swap hni hi hj hs
  have v4 : ∀ i j, i < wd → j < h - 1 → StartV (swapC cl) (y : Int) (x : Int) i j → _ := fun i j hi hj hs => start_in ry.swap rx.swap hni.symm hi hj hs
  have x12 : ¬ (VS cl h wd x y ∧ VS cl h wd y x) := by
    rintro ⟨⟨i, j, h1, h2, h3⟩, ⟨i', j', k1, k2, k3⟩⟩
    have := v1 i j h1 h2 h3; have := v2 i' j' k1 k2 k3; omega
  have x13 : ¬ (VS cl h wd x y ∧ VS (swapC cl) wd h x y) := by
    rintro ⟨⟨i, j, h1, h2, h3⟩, ⟨i', j', k1, k2, k3⟩⟩
    have := v1 i j h1 h2 h3; have := v3 i' j' k1 k2 k3; omega
  have x14 : ¬ (VS cl h wd x y ∧ VS (swapC cl) wd h y x) := by
    rintro ⟨⟨i, j, h1, h2, h3⟩, ⟨i', j', k1, k2, k3⟩⟩
    have := v1 i j h1 h2 h3; have := v4 i' j' k1 k2 k3; omega
  have x23 : ¬ (VS cl h wd y x ∧ VS (swapC cl) wd h x y) := by
    rintro ⟨⟨i, j, h1, h2, h3⟩, ⟨i', j', k1, k2, k3⟩⟩
    have := v2 i j h1 h2 h3; have := v3 i' j' k1 k2 k3; omega
  have x24 : ¬ (VS cl h wd y x ∧ VS (swapC cl) wd h y x) := by
    rintro ⟨⟨i, j, h1, h2, h3⟩, ⟨i', j', k1, k2, k3⟩⟩
    have := v2 i j h1 h2 h3; have := v4 i' j' k1 k2 k3; omega
  have x34 : ¬ (VS (swapC cl) wd h x y ∧ VS (swapC cl) wd h y x) := by
    rintro ⟨⟨i, j, h1, h2, h3⟩, ⟨i', j', k1, k2, k3⟩⟩
    have := v3 i j h1 h2 h3; have := v4 i' j' k1 k2 k3; omega
  exact four_ones _ _ _ _ _ key x12 x13 x14 x23 x24 x34
theorem pairs_seg (f : Flat cl boxes h wd) : pairN (nbB cl h wd) boxes.length = segV cl h wd + segV (swapC cl) wd h := by
  have tri : ∀ (F : Nat → Nat → Nat → Nat → Nat) (n k m : Nat), sumTo (fun j => sumTo (fun i => sumTo (fun a => sumTo (fun b => F a b i j) a) n) k) m = sumTo (fun a => sumTo (fun b => sumTo (fun j => sumTo (fun i => F a b i j) k) m) a) n := by
    intro F n k m
    have e1 : ∀ j, sumTo (fun i => sumTo (fun a => sumTo (fun b => F a b i j) a) n) k = sumTo (fun a => sumTo (fun b => sumTo (fun i => F a b i j) k) a) n := fun j => by
      rw [sumTo_swap]
      exact sumTo_same fun a _ => sumTo_swap _ _ _
    rw [sumTo_same fun j _ => e1 j, sumTo_swap]
    exact sumTo_same fun a _ => sumTo_swap _ _ _
  have s1 : segV cl h wd = sumTo (fun a => sumTo (fun b => sumTo (fun j => sumTo (fun i => i1 (StartV cl (a : Int) (b : Int) i j) + i1 (StartV cl (b : Int) (a : Int) i j)) h) (wd - 1)) a) boxes.length := by
    rw [← tri (fun a b i j => i1 (StartV cl (a : Int) (b : Int) i j) + i1 (StartV cl (b : Int) (a : Int) i j))]
    refine sumTo_same fun j hj => sumTo_same fun i hi => ?_
    obtain ⟨X, hX, eX⟩ := f.num i j hi (by omega)
    obtain ⟨Y, hY, eY⟩ := f.num i (1 + j) hi (by omega)
    exact seg_pairs cl boxes.length i j X Y hX hY eX eY
  have s2 : segV (swapC cl) wd h = sumTo (fun a => sumTo (fun b => sumTo (fun j => sumTo (fun i => i1 (StartV (swapC cl) (a : Int) (b : Int) i j) + i1 (StartV (swapC cl) (b : Int) (a : Int) i j)) wd) (h - 1)) a) boxes.length := by
    rw [← tri (fun a b i j => i1 (StartV (swapC cl) (a : Int) (b : Int) i j) + i1 (StartV (swapC cl) (b : Int) (a : Int) i j))]
    refine sumTo_same fun j hj => sumTo_same fun i hi => ?_
    obtain ⟨X, hX, eX⟩ := f.num j i (by omega) hi
    obtain ⟨Y, hY, eY⟩ := f.num (1 + j) i (by omega) hi
    exact seg_pairs (swapC cl) boxes.length i j X Y hX hY eX eY
  rw [s1, s2, pairN_sum, ← sumTo_plus]
  refine sumTo_same fun a ha => ?_
  rw [← sumTo_plus]
  exact sumTo_same fun b hb => (pair_once f ha (by omega) (by omega)).symm
theorem near_law (f : Flat cl boxes h wd) (hplain : allPts cl wd 4 1 (h - 1) = 0) : pairN (nbB cl h wd) boxes.length + endN cl h wd = 3 * (upN cl h wd + lvN cl h wd) := by
  have h1 := pairs_seg f
  have h2 := segN_points f
  have h3 := tees_law f
  omega
end
end Go.Proofs.Ytbpppchkgjcahaa
