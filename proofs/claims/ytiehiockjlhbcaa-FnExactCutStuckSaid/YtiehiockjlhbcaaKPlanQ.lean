/- Plans in plain Lean: the boxes' areas add up to the whole only where each room fills its box. -/
import Derived.Test.YtiehiockjlhbcaaKPlanP
namespace Go.Proofs.Ytiehiockjlhbcaa
open Go.RowKit
set_option linter.unusedVariables false

def sumTo (F : Nat → Nat) : Nat → Nat
  | 0 => 0
  | n + 1 => sumTo F n + F n
theorem sumTo_add (F : Nat → Nat) (a b : Nat) : sumTo F (a + b) = sumTo F a + sumTo (fun c => F (a + c)) b := by
  induction b with
  | zero => rfl
  | succ b ih =>
    rw [← Nat.add_assoc]
    show sumTo F (a + b) + F (a + b) = _ + (sumTo _ b + F (a + b))
    rw [ih]; omega
theorem sumTo_le {F G : Nat → Nat} {n : Nat} (h : ∀ m, m < n → F m ≤ G m) : sumTo F n ≤ sumTo G n := by
  induction n with
  | zero => exact Nat.le_refl _
  | succ n ih =>
    have h1 := ih (fun m hm => h m (by omega))
    have h2 := h n (by omega)
    show sumTo F n + F n ≤ sumTo G n + G n
    omega
theorem sumTo_range (lo k w : Nat) : sumTo (fun c => if lo ≤ c ∧ c < lo + k then 1 else 0) w ≤ min k (w - lo) := by
  induction w with
  | zero => exact Nat.zero_le _
  | succ w ih =>
    show sumTo _ w + (if lo ≤ w ∧ w < lo + k then 1 else 0) ≤ _
    split
    · omega
    · omega
theorem sumTo_rows (F : Nat → Nat) (w h B : Nat) (lo k : Nat) (hr : ∀ i, i < h → sumTo (fun c => F (i * w + c)) w ≤ if lo ≤ i ∧ i < lo + k then B else 0) : sumTo F (h * w) ≤ min k (h - lo) * B := by
  induction h with
  | zero => simp [sumTo]
  | succ h ih =>
    rw [Nat.succ_mul, sumTo_add]
    have h1 := ih (fun i hi => hr i (by omega))
    have h2 := hr h (by omega)
    split at h2
    · have : min k (h + 1 - lo) * B = min k (h - lo) * B + B := by
        rw [show min k (h + 1 - lo) = min k (h - lo) + 1 by omega, Nat.succ_mul]
      omega
    · have : min k (h - lo) * B ≤ min k (h + 1 - lo) * B := Nat.mul_le_mul_right _ (by omega)
      omega
/-- How many of the first n cells bear a letter. -/
def cntX (f : Nat → Int) (x : Int) (n : Nat) : Nat := sumTo (fun m => if f m = x then 1 else 0) n
theorem div_row {w i c : Nat} (hc : c < w) : (i * w + c) / w = i ∧ (i * w + c) % w = c := by
  constructor
  · rw [Nat.add_comm, Nat.add_mul_div_right _ _ (by omega), Nat.div_eq_of_lt hc]; omega
  · rw [Nat.add_comm, Nat.add_mul_mod_self_right, Nat.mod_eq_of_lt hc]
theorem box_nonneg {w : Nat} {f : Nat → Int} {n : Nat} {x : Int} {b : Box} (h : IsBox w f n x b) : 0 ≤ b.1 ∧ 0 ≤ b.2.1 ∧ 1 ≤ b.2.2.1 ∧ 1 ≤ b.2.2.2 := by
  obtain ⟨m1, a1, a2, a3⟩ := h.top
  obtain ⟨m3, c1, c2, c3⟩ := h.left
  have h1 := h.all m1 a1 a2
  have h2 := h.all m3 c1 c2
  exact ⟨by rw [a3]; exact Int.natCast_nonneg _, by rw [c3]; exact Int.natCast_nonneg _, by omega, by omega⟩
theorem cnt_le_area {w h : Nat} {f : Nat → Int} {x : Int} {b : Box} (hb : IsBox w f (h * w) x b) : (cntX f x (h * w) : Int) ≤ areaB b := by
  obtain ⟨p1, p2, p3, p4⟩ := box_nonneg hb
  obtain ⟨b1, b2, b3, b4⟩ := b
  dsimp only at *
  obtain ⟨r, rfl⟩ := Int.eq_ofNat_of_zero_le p1
  obtain ⟨l, rfl⟩ := Int.eq_ofNat_of_zero_le p2
  obtain ⟨k, rfl⟩ := Int.eq_ofNat_of_zero_le (show 0 ≤ b3 by omega)
  obtain ⟨v, rfl⟩ := Int.eq_ofNat_of_zero_le (show 0 ≤ b4 by omega)
  have hs : cntX f x (h * w) ≤ min k (h - r) * v := by
    unfold cntX
    refine sumTo_rows _ w h v r k (fun i hi => ?_)
    split
    · rename_i hin
      refine Nat.le_trans (sumTo_le (G := fun c => if l ≤ c ∧ c < l + v then 1 else 0) (fun c hc => ?_)) (Nat.le_trans (sumTo_range l v w) (Nat.min_le_left _ _))
      split
      · rename_i hx
        have hlt : i * w + c < h * w := by
          have : (i + 1) * w ≤ h * w := Nat.mul_le_mul_right _ hi
          rw [Nat.succ_mul] at this; omega
        have := hb.all _ hlt hx
        rw [(div_row hc).1, (div_row hc).2] at this
        dsimp only at this
        rw [if_pos (by omega)]
        exact Nat.le_refl _
      · exact Nat.zero_le _
    · rename_i hin
      have : sumTo (fun c => if f (i * w + c) = x then 1 else 0) w ≤ sumTo (fun _ => 0) w := sumTo_le (fun c hc => by
        split
        · rename_i hx
          have hlt : i * w + c < h * w := by
            have : (i + 1) * w ≤ h * w := Nat.mul_le_mul_right _ hi
            rw [Nat.succ_mul] at this; omega
          have := hb.all _ hlt hx
          rw [(div_row hc).1, (div_row hc).2] at this
          dsimp only at this
          omega
        · exact Nat.le_refl _)
      have hz : ∀ w, sumTo (fun _ => 0) w = 0 := fun w => by induction w with
        | zero => rfl
        | succ w ih => show sumTo _ w + 0 = 0; rw [ih]
      rw [hz] at this
      omega
  have h2 : min k (h - r) * v ≤ k * v := Nat.mul_le_mul_right _ (Nat.min_le_left _ _)
  show ((cntX f x (h * w) : Nat) : Int) ≤ (k : Int) * (v : Int)
  have h3 : ((k * v : Nat) : Int) = (k : Int) * (v : Int) := by push_cast; rfl
  omega
theorem cnt_one (l : List Int) (hn : l.Nodup) (y : Int) : (l.map fun x => if y = x then (1 : Nat) else 0).sum = if y ∈ l then 1 else 0 := by
  induction l with
  | nil => rfl
  | cons a t ih =>
    rw [List.nodup_cons] at hn
    rw [List.map_cons, List.sum_cons, ih hn.2]
    by_cases e : y = a
    · subst e
      rw [if_pos rfl, if_neg hn.1, if_pos (by simp)]
    · rw [if_neg e]
      by_cases h : y ∈ t
      · rw [if_pos h, if_pos (by simp [h])]
      · rw [if_neg h, if_neg (by simp [e, h])]
theorem sum_map_add (l : List Int) (F G : Int → Nat) : (l.map fun x => F x + G x).sum = (l.map F).sum + (l.map G).sum := by
  induction l with
  | nil => rfl
  | cons a t ih => simp only [List.map_cons, List.sum_cons, ih]; omega
theorem cnt_sum (f : Nat → Int) (l : List Int) (hn : l.Nodup) (n : Nat) (hm : ∀ m, m < n → f m ∈ l) : (l.map fun x => cntX f x n).sum = n := by
  induction n with
  | zero =>
    have : (l.map fun x => cntX f x 0) = l.map fun _ => 0 := rfl
    rw [this]
    clear hn hm this
    induction l with
    | nil => rfl
    | cons a t ih => simp only [List.map_cons, List.sum_cons, ih]
  | succ n ih =>
    have e : (l.map fun x => cntX f x (n + 1)) = l.map fun x => cntX f x n + (if f n = x then 1 else 0) := rfl
    rw [e, sum_map_add, ih (fun m hm' => hm m (by omega)), cnt_one l hn, if_pos (hm n (by omega))]
theorem sum_eq_all {α : Type} (l : List α) (F G : α → Int) (hle : ∀ x ∈ l, F x ≤ G x) : (l.map F).sum = (l.map G).sum ↔ ∀ x ∈ l, F x = G x := by
  have hs : ∀ t : List α, (∀ x ∈ t, F x ≤ G x) → (t.map F).sum ≤ (t.map G).sum := fun t => by
    induction t with
    | nil => intro _; exact Int.le_refl _
    | cons a t ih =>
      intro h
      simp only [List.map_cons, List.sum_cons]
      have := ih (fun x hx => h x (by simp [hx]))
      have := h a (by simp)
      omega
  induction l with
  | nil => simp
  | cons a t ih =>
    have h1 := hle a (by simp)
    have h2 := hs t (fun x hx => hle x (by simp [hx]))
    have h3 := ih (fun x hx => hle x (by simp [hx]))
    simp only [List.map_cons, List.sum_cons, List.mem_cons, forall_eq_or_imp]
    constructor
    · intro h
      exact ⟨by omega, h3.1 (by omega)⟩
    · rintro ⟨ha, hb⟩
      rw [ha, h3.2 hb]
theorem sum_cast {α : Type} (l : List α) (F : α → Nat) : ((l.map F).sum : Int) = (l.map fun x => (F x : Int)).sum := by
  induction l with
  | nil => rfl
  | cons a t ih => simp only [List.map_cons, List.sum_cons]; rw [← ih]; push_cast; rfl
/-- The boxes' areas add up to the whole exactly where each letter fills its box. -/
theorem area_all (w h : Nat) (f : Nat → Int) :
    ((scan w f (h * w)).2.map areaB).sum = ((h * w : Nat) : Int) ↔ ∀ (k : Nat) (h1 : k < (scan w f (h * w)).1.length) (h2 : k < (scan w f (h * w)).2.length), (cntX f (scan w f (h * w)).1[k] (h * w) : Int) = areaB (scan w f (h * w)).2[k] := by
  have hlen := scan_len (w := w) (f := f) (h * w)
  have hz : ((List.range (scan w f (h * w)).1.length).map fun k => areaB ((scan w f (h * w)).2.getD k (0, 0, 0, 0))) = (scan w f (h * w)).2.map areaB := by
    apply List.ext_getElem
    · simp [hlen]
    · intro i a1 a2
      simp at a2
      simp [a2]
  have hc : ((List.range (scan w f (h * w)).1.length).map fun k => cntX f ((scan w f (h * w)).1.getD k 0) (h * w)) = (scan w f (h * w)).1.map fun x => cntX f x (h * w) := by
    apply List.ext_getElem
    · simp
    · intro i a1 a2
      simp at a2
      simp [a2]
  have hs := cnt_sum f (scan w f (h * w)).1 (scan_nodup _) (h * w) (fun m hm => (scan_mem _ _).2 ⟨m, hm, rfl⟩)
  rw [← hc] at hs
  have hs' : ((List.range (scan w f (h * w)).1.length).map fun k => (cntX f ((scan w f (h * w)).1.getD k 0) (h * w) : Int)).sum = ((h * w : Nat) : Int) := by
    rw [← sum_cast, hs]
  rw [← hz, ← hs']
  have key := sum_eq_all (List.range (scan w f (h * w)).1.length) (fun k => (cntX f ((scan w f (h * w)).1.getD k 0) (h * w) : Int)) (fun k => areaB ((scan w f (h * w)).2.getD k (0, 0, 0, 0))) (fun k hk => by
    have hk := List.mem_range.1 hk
    have hb := scan_box (w := w) (f := f) (h * w) k hk (by omega)
    have := cnt_le_area hb
    simpa [hk, show k < (scan w f (h * w)).2.length by omega] using this)
  constructor
  · intro h0 k h1 h2
    have := key.1 h0.symm k (List.mem_range.2 h1)
    simpa [h1, h2] using this
  · intro h0
    exact (key.2 fun k hk => by
      have hk := List.mem_range.1 hk
      have := h0 k hk (by omega)
      simpa [hk, show k < (scan w f (h * w)).2.length by omega] using this).symm
end Go.Proofs.Ytiehiockjlhbcaa
