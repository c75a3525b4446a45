/- Plans in plain Lean: a grid's letters numbered in the order of first cells, and the box of each room. -/
import Derived.Test.YtiehiockjlhbcaaKBase
namespace Go.Proofs.Ytiehiockjlhbcaa
open Go.RowKit
set_option linter.unusedVariables false

/-- Row, column, height, width. -/
abbrev Box := Int × Int × Int × Int
def bothB (b o : Box) : Box := (min b.1 o.1, min b.2.1 o.2.1, max (b.1 + b.2.2.1) (o.1 + o.2.2.1) - min b.1 o.1, max (b.2.1 + b.2.2.2) (o.2.1 + o.2.2.2) - min b.2.1 o.2.1)
def areaB (b : Box) : Int := b.2.2.1 * b.2.2.2
def cellBox (w n : Nat) : Box := (((n / w : Nat) : Int), ((n % w : Nat) : Int), 1, 1)
/-- The letters met so far, and their boxes. -/
abbrev Scan := List Int × List Box
def addX (s : Scan) (b : Box) (x : Int) : Scan := if x ∈ s.1 then s else (s.1 ++ [x], s.2 ++ [b])
def stepX (s : Scan) (b : Box) (x : Int) : Scan :=
  ((addX s b x).1, (addX s b x).2.set (s.1.idxOf x) (bothB ((addX s b x).2.getD (s.1.idxOf x) (0, 0, 0, 0)) b))
/-- The scan of the first n cells of a grid of width w; f tells a cell. -/
def scan (w : Nat) (f : Nat → Int) : Nat → Scan
  | 0 => ([], [])
  | n + 1 => stepX (scan w f n) (cellBox w n) (f n)

section
variable {w : Nat} {f : Nat → Int}
theorem scan_fst (n : Nat) : (scan w f (n + 1)).1 = if f n ∈ (scan w f n).1 then (scan w f n).1 else (scan w f n).1 ++ [f n] := by
  show (addX _ _ _).1 = _
  unfold addX
  split <;> rfl
theorem addX_len (s : Scan) (b : Box) (x : Int) (h : s.1.length = s.2.length) : (addX s b x).1.length = (addX s b x).2.length := by
  unfold addX; split <;> simp [h]
theorem scan_len (n : Nat) : (scan w f n).1.length = (scan w f n).2.length := by
  induction n with
  | zero => rfl
  | succ n ih =>
    show (addX _ _ _).1.length = ((addX _ _ _).2.set _ _).length
    rw [List.length_set]; exact addX_len _ _ _ ih
theorem scan_mem (n : Nat) (x : Int) : x ∈ (scan w f n).1 ↔ ∃ m, m < n ∧ f m = x := by
  induction n with
  | zero => simp [scan]
  | succ n ih =>
    rw [scan_fst]
    split
    · rename_i h
      rw [ih]
      constructor
      · rintro ⟨m, h1, h2⟩; exact ⟨m, by omega, h2⟩
      · rintro ⟨m, h1, h2⟩
        by_cases e : m = n
        · subst e; rw [← h2]; exact ih.1 (by rw [h2] at h; exact h) |> fun ⟨m', a, b⟩ => ⟨m', a, by rw [b, h2]⟩
        · exact ⟨m, by omega, h2⟩
    · rw [List.mem_append, ih]
      simp only [List.mem_singleton]
      constructor
      · rintro (⟨m, h1, h2⟩ | rfl)
        · exact ⟨m, by omega, h2⟩
        · exact ⟨n, by omega, rfl⟩
      · rintro ⟨m, h1, h2⟩
        by_cases e : m = n
        · subst e; exact .inr h2.symm
        · exact .inl ⟨m, by omega, h2⟩
theorem scan_nodup (n : Nat) : (scan w f n).1.Nodup := by
  induction n with
  | zero => exact List.nodup_nil
  | succ n ih =>
    rw [scan_fst]
    split
    · exact ih
    · rename_i h
      rw [List.nodup_append]
      exact ⟨ih, by simp, fun a ha b hb e => by simp at hb; subst hb; subst e; exact h ha⟩
theorem scan_prefix {m n : Nat} (h : m ≤ n) : (scan w f m).1 <+: (scan w f n).1 := by
  induction n with
  | zero => rw [show m = 0 by omega]; exact List.prefix_refl _
  | succ n ih =>
    by_cases e : m = n + 1
    · rw [e]; exact List.prefix_refl _
    · refine (ih (by omega)).trans ?_
      rw [scan_fst]
      split
      · exact List.prefix_refl _
      · exact List.prefix_append _ _
theorem idxOf_prefix {l l' : List Int} (h : l <+: l') {x : Int} (hx : x ∈ l) : l'.idxOf x = l.idxOf x := by
  obtain ⟨t, rfl⟩ := h
  rw [List.idxOf_append, if_pos hx]
/-- The number of cell n: its letter's place in the order of first cells. -/
def numAt (w : Nat) (f : Nat → Int) (n : Nat) : Nat := (scan w f n).1.idxOf (f n)
theorem num_in (n : Nat) : numAt w f n = (scan w f (n + 1)).1.idxOf (f n) := by
  unfold numAt
  rw [scan_fst]
  split
  · rfl
  · rename_i h
    rw [List.idxOf_append, if_neg h, List.idxOf_eq_length h]
    simp
theorem num_stable {n N : Nat} (h : n < N) : numAt w f n = (scan w f N).1.idxOf (f n) := by
  rw [num_in, idxOf_prefix (scan_prefix h) ((scan_mem _ _).2 ⟨n, by omega, rfl⟩)]
theorem num_lt {n N : Nat} (h : n < N) : numAt w f n < (scan w f N).1.length := by
  rw [num_stable h]; exact List.idxOf_lt_length_of_mem ((scan_mem _ _).2 ⟨n, h, rfl⟩)
/-- All cells bear the letter of their number. -/
def Named (w : Nat) (f : Nat → Int) (N : Nat) : Prop := ∀ n, n < N → f n = 97 + (numAt w f n : Int)
theorem named_ord {N : Nat} (h : Named w f N) (k : Nat) (hk : k < (scan w f N).1.length) : (scan w f N).1[k] = 97 + (k : Int) := by
  obtain ⟨m, hm, e⟩ := (scan_mem N _).1 (List.getElem_mem hk)
  have hi : (scan w f N).1.idxOf (scan w f N).1[k] = k := List.Nodup.idxOf_getElem (scan_nodup N) k hk
  rw [← e, h m hm, num_stable hm, e, hi]

/-- What a box says of the first n cells with a letter. -/
structure IsBox (w : Nat) (f : Nat → Int) (n : Nat) (x : Int) (b : Box) : Prop where
  all : ∀ m, m < n → f m = x → b.1 ≤ (m / w : Nat) ∧ ((m / w : Nat) : Int) < b.1 + b.2.2.1 ∧ b.2.1 ≤ (m % w : Nat) ∧ ((m % w : Nat) : Int) < b.2.1 + b.2.2.2
  top : ∃ m, m < n ∧ f m = x ∧ b.1 = (m / w : Nat)
  low : ∃ m, m < n ∧ f m = x ∧ b.1 + b.2.2.1 = (m / w : Nat) + 1
  left : ∃ m, m < n ∧ f m = x ∧ b.2.1 = (m % w : Nat)
  right : ∃ m, m < n ∧ f m = x ∧ b.2.1 + b.2.2.2 = (m % w : Nat) + 1
theorem IsBox.unique {n : Nat} {x : Int} {b c : Box} (h : IsBox w f n x b) (k : IsBox w f n x c) : b = c := by
  obtain ⟨m1, a1, a2, a3⟩ := h.top
  obtain ⟨m2, b1, b2, b3⟩ := h.low
  obtain ⟨m3, c1, c2, c3⟩ := h.left
  obtain ⟨m4, d1, d2, d3⟩ := h.right
  obtain ⟨n1, e1, e2, e3⟩ := k.top
  obtain ⟨n2, f1, f2, f3⟩ := k.low
  obtain ⟨n3, g1, g2, g3⟩ := k.left
  obtain ⟨n4, i1, i2, i3⟩ := k.right
  have := h.all n1 e1 e2
  have := h.all n2 f1 f2
  have := h.all n3 g1 g2
  have := h.all n4 i1 i2
  have := k.all m1 a1 a2
  have := k.all m2 b1 b2
  have := k.all m3 c1 c2
  have := k.all m4 d1 d2
  obtain ⟨b1', b2', b3', b4'⟩ := b
  obtain ⟨c1', c2', c3', c4'⟩ := c
  dsimp only at *
  have e1 : b1' = c1' := by omega
  have e2 : b2' = c2' := by omega
  have e3 : b3' = c3' := by omega
  have e4 : b4' = c4' := by omega
  rw [e1, e2, e3, e4]
theorem isBox_new {n : Nat} (hnew : ∀ m, m < n → f m ≠ f n) : IsBox w f (n + 1) (f n) (bothB (cellBox w n) (cellBox w n)) := by
  have hb : bothB (cellBox w n) (cellBox w n) = cellBox w n := by
    unfold bothB cellBox
    simp only [Int.min_self, Int.max_self]
    simp
    omega
  rw [hb]
  refine ⟨fun m hm e => ?_, ⟨n, by omega, rfl, rfl⟩, ⟨n, by omega, rfl, rfl⟩, ⟨n, by omega, rfl, rfl⟩, ⟨n, by omega, rfl, rfl⟩⟩
  have : m = n := by
    by_cases h : m < n
    · exact absurd e (hnew m h)
    · omega
  subst this
  unfold cellBox
  dsimp only
  omega
theorem isBox_more {n : Nat} {b : Box} (h : IsBox w f n (f n) b) : IsBox w f (n + 1) (f n) (bothB b (cellBox w n)) := by
  obtain ⟨all, ⟨m1, a1, a2, a3⟩, ⟨m2, b1, b2, b3⟩, ⟨m3, c1, c2, c3⟩, ⟨m4, d1, d2, d3⟩⟩ := h
  have t1 := all m1 a1 a2
  have t2 := all m2 b1 b2
  have t3 := all m3 c1 c2
  have t4 := all m4 d1 d2
  obtain ⟨b1', b2', b3', b4'⟩ := b
  unfold bothB cellBox
  dsimp only at *
  refine ⟨fun m hm e => ?_, ?_, ?_, ?_, ?_⟩
  · by_cases hmn : m = n
    · subst hmn; dsimp only; omega
    · have := all m (by omega) e
      dsimp only
      omega
  · by_cases h : b1' ≤ ((n / w : Nat) : Int)
    · exact ⟨m1, by omega, a2, by dsimp only; omega⟩
    · exact ⟨n, by omega, rfl, by dsimp only; omega⟩
  · by_cases h : ((n / w : Nat) : Int) + 1 ≤ b1' + b3'
    · exact ⟨m2, by omega, b2, by dsimp only; omega⟩
    · exact ⟨n, by omega, rfl, by dsimp only; omega⟩
  · by_cases h : b2' ≤ ((n % w : Nat) : Int)
    · exact ⟨m3, by omega, c2, by dsimp only; omega⟩
    · exact ⟨n, by omega, rfl, by dsimp only; omega⟩
  · by_cases h : ((n % w : Nat) : Int) + 1 ≤ b2' + b4'
    · exact ⟨m4, by omega, d2, by dsimp only; omega⟩
    · exact ⟨n, by omega, rfl, by dsimp only; omega⟩
theorem isBox_other {n : Nat} {x : Int} {b : Box} (hx : f n ≠ x) (h : IsBox w f n x b) : IsBox w f (n + 1) x b := by
  obtain ⟨all, ⟨m1, a1, a2, a3⟩, ⟨m2, b1, b2, b3⟩, ⟨m3, c1, c2, c3⟩, ⟨m4, d1, d2, d3⟩⟩ := h
  refine ⟨fun m hm e => all m ?_ e, ⟨m1, by omega, a2, a3⟩, ⟨m2, by omega, b2, b3⟩, ⟨m3, by omega, c2, c3⟩, ⟨m4, by omega, d2, d3⟩⟩
  by_cases h : m = n
  · subst h; exact absurd e hx
  · omega
/-- The scan's boxes are the boxes of its letters. -/
theorem scan_box (n : Nat) : ∀ (k : Nat) (h1 : k < (scan w f n).1.length) (h2 : k < (scan w f n).2.length), IsBox w f n (scan w f n).1[k] (scan w f n).2[k] := by
  induction n with
  | zero => intro k h1; exact absurd h1 (by simp [scan])
  | succ n ih =>
    intro k h1 h2
    have hlen := scan_len (w := w) (f := f) n
    by_cases hmem : f n ∈ (scan w f n).1
    · have hE : scan w f (n + 1) = ((scan w f n).1, (scan w f n).2.set ((scan w f n).1.idxOf (f n)) (bothB ((scan w f n).2.getD ((scan w f n).1.idxOf (f n)) (0, 0, 0, 0)) (cellBox w n))) := by
        show stepX _ _ _ = _
        unfold stepX addX
        rw [if_pos hmem]
      have hil : (scan w f n).1.idxOf (f n) < (scan w f n).1.length := List.idxOf_lt_length_of_mem hmem
      have hget : (scan w f n).1[(scan w f n).1.idxOf (f n)] = f n := List.getElem_idxOf hil
      simp only [hE] at h1 h2 ⊢
      rw [List.getElem_set]
      split
      · rename_i e
        subst e
        rw [hget, List.getD_eq_getElem?_getD, List.getElem?_eq_getElem (by omega), Option.getD_some]
        have := ih _ hil (by omega)
        rw [hget] at this
        exact isBox_more this
      · rename_i e
        refine isBox_other (fun he => e ?_) (ih k h1 (by omega))
        rw [he, List.Nodup.idxOf_getElem (scan_nodup n) k h1]
    · have hE : scan w f (n + 1) = ((scan w f n).1 ++ [f n], ((scan w f n).2 ++ [cellBox w n]).set ((scan w f n).1.idxOf (f n)) (bothB (((scan w f n).2 ++ [cellBox w n]).getD ((scan w f n).1.idxOf (f n)) (0, 0, 0, 0)) (cellBox w n))) := by
        show stepX _ _ _ = _
        unfold stepX addX
        rw [if_neg hmem]
      have hidx : (scan w f n).1.idxOf (f n) = (scan w f n).1.length := List.idxOf_eq_length hmem
      simp only [hE, hidx] at h1 h2 ⊢
      rw [List.getElem_set]
      split
      · rename_i e
        subst e
        have hg : ((scan w f n).2 ++ [cellBox w n]).getD (scan w f n).1.length (0, 0, 0, 0) = cellBox w n := by
          rw [List.getD_eq_getElem?_getD, hlen]; simp
        have hx : ((scan w f n).1 ++ [f n])[(scan w f n).1.length]'(by simp) = f n := by simp
        have hnew := isBox_new (w := w) (f := f) (n := n) (fun m hm e => hmem ((scan_mem n _).2 ⟨m, hm, e⟩))
        simp only [hg, hx]
        exact hnew
      · rename_i e
        have hk : k < (scan w f n).1.length := by simp at h1; omega
        rw [List.getElem_append_left hk, List.getElem_append_left (by omega)]
        refine isBox_other (fun he => hmem ?_) (ih k hk (by omega))
        rw [he]; exact List.getElem_mem hk
end
end Go.Proofs.Ytiehiockjlhbcaa
