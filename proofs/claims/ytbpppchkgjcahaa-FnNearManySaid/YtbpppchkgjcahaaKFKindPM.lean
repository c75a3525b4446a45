/- Texts of this claim's, joined by a program: FKindP, FOrdP, FOrdQ, FJustP, FBfsP, FTouchP. -/
import Derived.Lib.SlicesCompact
import Derived.Test.YtbpppchkgjcahaaKFWallsL
import Derived.Test.YtbpppchkgjcahaaKFFloorRM
import Derived.RowKit
section
namespace Go.Proofs.Ytbpppchkgjcahaa
set_option linter.unusedVariables false
set_option linter.unusedSimpArgs false
section
variable {cl : Nat → Nat → Int} {h w : Nat} {a : Int} {SR SD : Int → Prop}
end
end Go.Proofs.Ytbpppchkgjcahaa
end
section
namespace Go.Proofs.Ytbpppchkgjcahaa
set_option linter.unusedVariables false
set_option linter.unusedSimpArgs false
section
variable {n : Nat} {R : Nat → Nat → Bool} {w P : Nat → Int} (hw : ∀ a, a < n → 0 ≤ w a) (hP : ∀ a b, a < n → b < n → R a b = true → P a + w a ≤ P b)
include hw hP
end
end Go.Proofs.Ytbpppchkgjcahaa
end
section
namespace Go.Proofs.Ytbpppchkgjcahaa
set_option linter.unusedVariables false
set_option linter.unusedSimpArgs false
set_option linter.unusedSectionVars false
end Go.Proofs.Ytbpppchkgjcahaa
end
section
namespace Go.Proofs.Ytbpppchkgjcahaa
open Go.RowKit Go.Shelf Go.Proofs.YtbpppchkgjcahaaW.PrintWords Go.Proofs.YtbpppchkgjcahaaW.PrintMore
set_option linter.unusedVariables false
set_option linter.unusedSimpArgs false
set_option linter.unusedSectionVars false
theorem runs_has (df : Nat → Bool) : ∀ (d i : Nat) (o : Option Nat), (∀ f, o = some f → f ≤ i) → ∀ u v, u ≤ v → v < i + d → (i ≤ u ∨ ∃ f, o = some f ∧ f ≤ u) → (∀ k, u ≤ k → k ≤ v → i ≤ k → df k = true) → ∃ x ∈ runs df o i d, x.1 ≤ u ∧ v < x.1 + x.2 := by
  intro d
  induction d with
  | zero =>
    intro i o ho u v huv hv hs hd
    rcases hs with hs | ⟨f, rfl, hf⟩
    · omega
    · have := ho f rfl
      exact ⟨(f, i - f), .head _, hf, by show v < f + (i - f); omega⟩
  | succ d ih =>
    intro i o ho u v huv hv hs hd
    cases o with
    | none =>
      have hi : i ≤ u := by
        rcases hs with hs | ⟨f, h, _⟩
        · exact hs
        · cases h
      by_cases h : df i = true
      · rw [show runs df none i (d + 1) = if df i = true then runs df (some i) (i + 1) d else runs df none (i + 1) d from rfl, if_pos h]
        exact ih (i + 1) (some i) (fun f e => by injection e with e; omega) u v huv (by omega) (.inr ⟨i, rfl, hi⟩) (fun k h1 h2 h3 => hd k h1 h2 (by omega))
      · rw [show runs df none i (d + 1) = if df i = true then runs df (some i) (i + 1) d else runs df none (i + 1) d from rfl, if_neg h]
        have : i ≠ u := fun e => h (hd i (by omega) (by omega) (Nat.le_refl _))
        exact ih (i + 1) none (fun f e => by cases e) u v huv (by omega) (.inl (by omega)) (fun k h1 h2 h3 => hd k h1 h2 (by omega))
    | some f =>
      have hf := ho f rfl
      by_cases h : df i = true
      · rw [show runs df (some f) i (d + 1) = if df i = true then runs df (some f) (i + 1) d else (f, i - f) :: runs df none (i + 1) d from rfl, if_pos h]
        refine ih (i + 1) (some f) (fun f' e => by injection e with e; omega) u v huv (by omega) (.inr ⟨f, rfl, ?_⟩) (fun k h1 h2 h3 => hd k h1 h2 (by omega))
        rcases hs with hs | ⟨f', e, hs⟩
        · omega
        · injection e with e; omega
      · rw [show runs df (some f) i (d + 1) = if df i = true then runs df (some f) (i + 1) d else (f, i - f) :: runs df none (i + 1) d from rfl, if_neg h]
        by_cases hvi : v < i
        · refine ⟨(f, i - f), .head _, ?_, by show v < f + (i - f); omega⟩
          rcases hs with hs | ⟨f', e, hs⟩
          · omega
          · injection e with e; subst e; exact hs
        · have : ¬ u ≤ i := fun e => h (hd i e (by omega) (Nat.le_refl _))
          obtain ⟨x, hx, r⟩ := ih (i + 1) none (fun f e => by cases e) u v huv (by omega) (.inl (by omega)) (fun k h1 h2 h3 => hd k h1 h2 (by omega))
          exact ⟨x, .tail _ hx, r⟩
theorem wallsFrom_has (cl : Nat → Nat → Int) (level : Bool) (places : Nat) {x : WallT} : ∀ d line, 1 ≤ line → line < 1 + d → x ∈ wallsRow cl level line places → x ∈ wallsFrom cl level places d := by
  intro d
  induction d with
  | zero => intro line h1 h2; omega
  | succ d ih =>
    intro line h1 h2 hx
    show x ∈ wallsFrom cl level places d ++ wallsRow cl level (1 + d) places
    by_cases e : line = 1 + d
    · subst e; exact List.mem_append_right _ hx
    · exact List.mem_append_left _ (ih line h1 (by omega) hx)
theorem wall_has (cl : Nat → Nat → Int) {h wd : Nat} (level : Bool) {line u v : Nat} (h1 : 1 ≤ line) (h2 : line < if level then h else wd) (huv : u ≤ v) (hv : v < if level then wd else h) (hd : ∀ k, u ≤ k → k ≤ v → dfL cl level line k = true) :
    ∃ x ∈ wallsL cl h wd, x.1 = level ∧ x.2.1 = line ∧ x.2.2.1 ≤ u ∧ v < x.2.2.1 + x.2.2.2 := by
  obtain ⟨y, hy, r1, r2⟩ := runs_has (dfL cl level line) (if level then wd else h) 0 none (fun f e => by cases e) u v huv (by omega) (.inl (Nat.zero_le _)) (fun k a b _ => hd k a b)
  refine ⟨(level, line, y.1, y.2), ?_, rfl, rfl, r1, r2⟩
  unfold wallsL
  cases level with
  | false =>
    refine List.mem_append_left _ (wallsFrom_has cl false h (wd - 1) line h1 (by simp at h2; omega) ?_)
    exact List.mem_map.2 ⟨y, hy, rfl⟩
  | true =>
    refine List.mem_append_right _ (wallsFrom_has cl true wd (h - 1) line h1 (by simp at h2; omega) ?_)
    exact List.mem_map.2 ⟨y, hy, rfl⟩
section
variable {cl : Nat → Nat → Int} {boxes : List Box} {h wd : Nat} (f : Flat cl boxes h wd)
include f
end
end Go.Proofs.Ytbpppchkgjcahaa
end
section
namespace Go.Proofs.Ytbpppchkgjcahaa
set_option linter.unusedVariables false
set_option linter.unusedSimpArgs false
def nearL (nb : Nat → Nat → Bool) (n a : Nat) : List Nat := (List.range n).filter (nb a)
theorem nearL_mem {nb : Nat → Nat → Bool} {n a y : Nat} : y ∈ nearL nb n a ↔ y < n ∧ nb a y = true := by
  unfold nearL; rw [List.mem_filter, List.mem_range]
def dAt (D : List Int) (x : Nat) : Int := D.getD x 0
theorem dAt_set (D : List Int) (b : Nat) (v : Int) (x : Nat) (hb : b < D.length) : dAt (D.set b v) x = if x = b then v else dAt D x := by
  unfold dAt
  rw [List.getD_eq_getElem?_getD, List.getD_eq_getElem?_getD, List.getElem?_set]
  by_cases e : b = x
  · subst e; rw [if_pos rfl, if_pos hb, if_pos rfl]; rfl
  · rw [if_neg e, if_neg (fun h => e h.symm)]
def visit (d : Int) (s : List Int × List Nat) (b : Nat) : List Int × List Nat := if dAt s.1 b < 0 then (s.1.set b (d + 1), s.2 ++ [b]) else s
def negN (D : List Int) : Nat := (D.filter fun x => decide (x < 0)).length
theorem negN_set : ∀ (D : List Int) (b : Nat) (v : Int), b < D.length → dAt D b < 0 → 0 ≤ v → negN (D.set b v) + 1 = negN D := by
  intro D
  induction D with
  | nil => intro b v h; exact absurd h (Nat.not_lt_zero _)
  | cons x D ih =>
    intro b v hb hd hv
    cases b with
    | zero =>
      have hx : x < 0 := hd
      unfold negN
      rw [List.set_cons_zero, List.filter_cons_of_neg (by simp; omega), List.filter_cons_of_pos (by simpa using hx)]
      rfl
    | succ b =>
      have h := ih b v (by simpa using hb) hd hv
      unfold negN at h ⊢
      rw [List.set_cons_succ]
      by_cases hx : x < 0
      · rw [List.filter_cons_of_pos (by simpa using hx), List.filter_cons_of_pos (by simpa using hx), List.length_cons, List.length_cons, h]
      · rw [List.filter_cons_of_neg (by simpa using hx), List.filter_cons_of_neg (by simpa using hx), h]
structure Met (d : Int) (l : List Nat) (D : List Int) (q : List Nat) (s : List Int × List Nat) : Prop where
  len : s.1.length = D.length
  at_ : ∀ x, x < D.length → dAt s.1 x = if dAt D x < 0 ∧ x ∈ l then d + 1 else dAt D x
  more : ∃ new, s.2 = q ++ new ∧ (∀ y, y ∈ new ↔ y ∈ l ∧ dAt D y < 0) ∧ new.length + negN s.1 = negN D
theorem met_fold (d : Int) (hd : 0 ≤ d) : ∀ (l : List Nat) (D : List Int) (q : List Nat), (∀ x ∈ l, x < D.length) → Met d l D q (l.foldl (visit d) (D, q)) := by
  intro l
  induction l with
  | nil => intro D q _; exact ⟨rfl, fun x _ => by simp, [], by simp, fun y => by simp, by simp⟩
  | cons b l ih =>
    intro D q hl
    have hb := hl b List.mem_cons_self
    rw [List.foldl_cons]
    by_cases h : dAt D b < 0
    · have e : visit d (D, q) b = (D.set b (d + 1), q ++ [b]) := by unfold visit; rw [if_pos h]
      rw [e]
      have hn := negN_set D b (d + 1) hb h (by omega)
      obtain ⟨h1, h2, new, h3, h4, h5⟩ := ih (D.set b (d + 1)) (q ++ [b]) (fun x hx => by rw [List.length_set]; exact hl x (List.mem_cons_of_mem _ hx))
      rw [List.length_set] at h1 h2
      refine ⟨h1, fun x hx => ?_, b :: new, by rw [h3]; simp, fun y => ?_, by rw [List.length_cons]; omega⟩
      · rw [h2 x hx, dAt_set D b _ x hb]
        by_cases ex : x = b
        · subst ex
          rw [if_pos rfl, if_neg (by omega), if_pos ⟨h, List.mem_cons_self⟩]
        · rw [if_neg ex]
          simp only [List.mem_cons, ex, false_or]
      · rw [List.mem_cons, h4, dAt_set D b _ y hb, List.mem_cons]
        by_cases ey : y = b
        · subst ey
          exact ⟨fun _ => ⟨.inl rfl, h⟩, fun _ => .inl rfl⟩
        · rw [if_neg ey]
          constructor
          · rintro (h | h)
            · exact absurd h ey
            · exact ⟨.inr h.1, h.2⟩
          · rintro ⟨h | h, h'⟩
            · exact absurd h ey
            · exact .inr ⟨h, h'⟩
    · have e : visit d (D, q) b = (D, q) := by unfold visit; rw [if_neg h]
      rw [e]
      obtain ⟨h1, h2, new, h3, h4, h5⟩ := ih D q (fun x hx => hl x (List.mem_cons_of_mem _ hx))
      refine ⟨h1, fun x hx => ?_, new, h3, fun y => ?_, h5⟩
      · rw [h2 x hx]
        by_cases ex : x = b
        · subst ex
          rw [if_neg (fun hh => h hh.1), if_neg (fun hh => h hh.1)]
        · simp only [List.mem_cons, ex, false_or]
      · rw [h4, List.mem_cons]
        constructor
        · rintro ⟨h, h'⟩; exact ⟨.inr h, h'⟩
        · rintro ⟨h' | h', h''⟩
          · subst h'; exact absurd h'' h
          · exact ⟨h', h''⟩
structure BInv (nb : Nat → Nat → Bool) (n a : Nat) (D : List Int) (q : List Nat) : Prop where
  len : D.length = n
  zero : dAt D a = 0
  low : ∀ x, x < n → -1 ≤ dAt D x
  pred : ∀ x, x < n → x ≠ a → 0 ≤ dAt D x → ∃ y, y < n ∧ nb y x = true ∧ 0 ≤ dAt D y ∧ dAt D x = dAt D y + 1
  inq : ∀ x ∈ q, x < n ∧ 0 ≤ dAt D x
  done : ∀ x, x < n → 0 ≤ dAt D x → x ∉ q → ∀ y, y < n → nb x y = true → 0 ≤ dAt D y ∧ dAt D y ≤ dAt D x + 1
  sorted : q.Pairwise fun x y => dAt D x ≤ dAt D y
  top : ∀ z, z < n → ∀ x ∈ q, dAt D z ≤ dAt D x + 1
  few : ∀ x, x < n → dAt D x + (negN D : Int) < (n : Int)
theorem BInv.round {nb : Nat → Nat → Bool} {n a : Nat} {D : List Int} {x0 : Nat} {q : List Nat} (h : BInv nb n a D (x0 :: q)) (ha : a < n) :
    BInv nb n a ((nearL nb n x0).foldl (visit (dAt D x0)) (D, q)).1 ((nearL nb n x0).foldl (visit (dAt D x0)) (D, q)).2 ∧ negN ((nearL nb n x0).foldl (visit (dAt D x0)) (D, q)).1 + ((nearL nb n x0).foldl (visit (dAt D x0)) (D, q)).2.length + 1 = negN D + (x0 :: q).length := by
  obtain ⟨h0, h0'⟩ := h.inq x0 List.mem_cons_self
  have m := met_fold (dAt D x0) h0' (nearL nb n x0) D q (fun x hx => by rw [h.len]; exact (nearL_mem.1 hx).1)
  generalize (nearL nb n x0).foldl (visit (dAt D x0)) (D, q) = s at m ⊢
  obtain ⟨D', q'⟩ := s
  obtain ⟨m1, m2, new, m3, m4, m5⟩ := m
  simp only at m1 m2 m3 m5 ⊢
  rw [h.len] at m1 m2
  subst m3
  have old : ∀ x, x < n → 0 ≤ dAt D x → dAt D' x = dAt D x := fun x hx h1 => by rw [m2 x hx, if_neg (by omega)]
  have newd : ∀ x, x ∈ new → dAt D' x = dAt D x0 + 1 ∧ x < n ∧ nb x0 x = true := fun x hx => by
    obtain ⟨k1, k2⟩ := (m4 x).1 hx
    obtain ⟨k3, k4⟩ := nearL_mem.1 k1
    exact ⟨by rw [m2 x k3, if_pos ⟨k2, k1⟩], k3, k4⟩
  have two : ∀ x, x < n → 0 ≤ dAt D' x → 0 ≤ dAt D x ∨ x ∈ new := fun x hx h1 => by
    by_cases h2 : 0 ≤ dAt D x
    · exact .inl h2
    · rw [m2 x hx] at h1
      by_cases h3 : x ∈ nearL nb n x0
      · exact .inr ((m4 x).2 ⟨h3, by omega⟩)
      · rw [if_neg (fun hh => h3 hh.2)] at h1; exact .inl h1
  have srt := List.pairwise_cons.1 h.sorted
  have lq : ∀ x ∈ q, dAt D' x = dAt D x ∧ dAt D x0 ≤ dAt D x ∧ dAt D x ≤ dAt D x0 + 1 := fun x hx => by
    obtain ⟨k1, k2⟩ := h.inq x (List.mem_cons_of_mem _ hx)
    exact ⟨old x k1 k2, srt.1 x hx, h.top x k1 x0 List.mem_cons_self⟩
  refine ⟨⟨m1, ?_, ?_, ?_, ?_, ?_, ?_, ?_, ?_⟩, ?_⟩
  · rw [old a ha (by rw [h.zero]; exact Int.le_refl _), h.zero]
  · intro x hx
    rw [m2 x hx]
    have := h.low x hx
    split <;> omega
  · intro x hx hxa h1
    rcases two x hx h1 with h2 | h2
    · obtain ⟨y, k1, k2, k3, k4⟩ := h.pred x hx hxa h2
      exact ⟨y, k1, k2, by rw [old y k1 k3]; exact k3, by rw [old x hx h2, old y k1 k3]; exact k4⟩
    · obtain ⟨k1, k2, k3⟩ := newd x h2
      exact ⟨x0, h0, k3, by rw [old x0 h0 h0']; exact h0', by rw [k1, old x0 h0 h0']⟩
  · intro x hx
    rcases List.mem_append.1 hx with hx | hx
    · obtain ⟨k1, k2⟩ := h.inq x (List.mem_cons_of_mem _ hx)
      exact ⟨k1, by rw [old x k1 k2]; exact k2⟩
    · obtain ⟨k1, k2, _⟩ := newd x hx
      exact ⟨k2, by omega⟩
  · intro x hx h1 hq y hy hn
    have hq1 : x ∉ q := fun hh => hq (List.mem_append_left _ hh)
    have hq2 : x ∉ new := fun hh => hq (List.mem_append_right _ hh)
    have h2 : 0 ≤ dAt D x := (two x hx h1).resolve_right hq2
    by_cases e : x = x0
    · subst e
      rw [old x hx h2]
      have hnm : y ∈ nearL nb n x := nearL_mem.2 ⟨hy, hn⟩
      have ht := h.top y hy x List.mem_cons_self
      rw [m2 y hy]
      by_cases h3 : dAt D y < 0
      · rw [if_pos ⟨h3, hnm⟩]; omega
      · rw [if_neg (fun hh => h3 hh.1)]; omega
    · obtain ⟨k1, k2⟩ := h.done x hx h2 (fun hh => (List.mem_cons.1 hh).elim e hq1) y hy hn
      rw [old x hx h2, old y hy k1]
      exact ⟨k1, k2⟩
  · refine List.pairwise_append.2 ⟨?_, ?_, ?_⟩
    · exact srt.2.imp_of_mem fun {x y} hx hy hh => by rw [(lq x hx).1, (lq y hy).1]; exact hh
    · have e : ∀ (l : List Nat), (∀ x ∈ l, dAt D' x = dAt D x0 + 1) → l.Pairwise fun x y => dAt D' x ≤ dAt D' y := by
        intro l
        induction l with
        | nil => intro _; exact List.Pairwise.nil
        | cons x l ih =>
          intro hl
          refine List.pairwise_cons.2 ⟨fun y hy => ?_, ih fun y hy => hl y (List.mem_cons_of_mem _ hy)⟩
          rw [hl x List.mem_cons_self, hl y (List.mem_cons_of_mem _ hy)]; exact Int.le_refl _
      exact e new fun x hx => (newd x hx).1
    · intro x hx y hy
      rw [(lq x hx).1, (newd y hy).1]; exact (lq x hx).2.2
  · intro z hz x hx
    have hz1 : dAt D' z ≤ dAt D x0 + 1 := by
      have := h.top z hz x0 List.mem_cons_self
      rw [m2 z hz]; split <;> omega
    rcases List.mem_append.1 hx with hx | hx
    · obtain ⟨k1, k2, k3⟩ := lq x hx
      rw [k1]; omega
    · rw [(newd x hx).1]; omega
  · intro x hx
    have k0 := h.few x0 h0
    have k1 := h.few x hx
    by_cases h3 : dAt D x < 0 ∧ x ∈ nearL nb n x0
    · have h4 : x ∈ new := (m4 x).2 ⟨h3.2, h3.1⟩
      have h5 : 1 ≤ new.length := List.length_pos_of_mem h4
      rw [m2 x hx, if_pos h3]; omega
    · rw [m2 x hx, if_neg h3]; omega
  · rw [List.length_append, List.length_cons]; omega
structure IsDist (nb : Nat → Nat → Bool) (n a : Nat) (D : List Int) : Prop where
  len : D.length = n
  zero : dAt D a = 0
  low : ∀ x, x < n → -1 ≤ dAt D x
  pred : ∀ x, x < n → x ≠ a → 0 ≤ dAt D x → ∃ y, y < n ∧ nb y x = true ∧ 0 ≤ dAt D y ∧ dAt D x = dAt D y + 1
  step : ∀ x, x < n → 0 ≤ dAt D x → ∀ y, y < n → nb x y = true → 0 ≤ dAt D y ∧ dAt D y ≤ dAt D x + 1
  few : ∀ x, x < n → dAt D x < (n : Int)
def Way (nb : Nat → Nat → Bool) (n a : Nat) : Nat → Nat → Prop
  | 0, x => x = a
  | k + 1, x => ∃ y, y < n ∧ nb y x = true ∧ Way nb n a k y
theorem Way.front {nb : Nat → Nat → Bool} {n : Nat} : ∀ {k a b x : Nat}, a < n → nb a b = true → Way nb n b k x → Way nb n a (k + 1) x := by
  intro k
  induction k with
  | zero => intro a b x ha h hw; obtain rfl : x = b := hw; exact ⟨a, ha, h, rfl⟩
  | succ k ih => rintro a b x ha h ⟨y, h1, h2, h3⟩; exact ⟨y, h1, h2, ih ha h h3⟩
end Go.Proofs.Ytbpppchkgjcahaa
end
section
namespace Go.Proofs.Ytbpppchkgjcahaa
open Go.RowKit Go.Shelf Go.Proofs.YtbpppchkgjcahaaW.PrintWords Go.Proofs.YtbpppchkgjcahaaW.PrintMore
set_option linter.unusedVariables false
set_option linter.unusedSimpArgs false
def BesideC (cl : Nat → Nat → Int) (h wd : Nat) (a b : Int) : Prop :=
  (∃ i j, i < h ∧ j + 1 < wd ∧ (cl i j = a ∧ cl i (j + 1) = b ∨ cl i j = b ∧ cl i (j + 1) = a)) ∨ (∃ i j, i + 1 < h ∧ j < wd ∧ (cl i j = a ∧ cl (i + 1) j = b ∨ cl i j = b ∧ cl (i + 1) j = a))
noncomputable def nbB (cl : Nat → Nat → Int) (h wd : Nat) (a b : Nat) : Bool := @decide (a ≠ b ∧ BesideC cl h wd (a : Int) (b : Int)) (Classical.propDecidable _)
theorem nbB_iff {cl : Nat → Nat → Int} {h wd a b : Nat} : nbB cl h wd a b = true ↔ a ≠ b ∧ BesideC cl h wd (a : Int) (b : Int) := by
  unfold nbB; exact @decide_eq_true_iff _ (Classical.propDecidable _)
theorem BesideC.symm {cl : Nat → Nat → Int} {h wd : Nat} {a b : Int} (hh : BesideC cl h wd a b) : BesideC cl h wd b a := by
  rcases hh with ⟨i, j, h1, h2, h3⟩ | ⟨i, j, h1, h2, h3⟩
  · exact .inl ⟨i, j, h1, h2, h3.symm⟩
  · exact .inr ⟨i, j, h1, h2, h3.symm⟩
theorem nbB_symm (cl : Nat → Nat → Int) (h wd a b : Nat) : nbB cl h wd a b = nbB cl h wd b a := by
  rw [Bool.eq_iff_iff, nbB_iff, nbB_iff]
  exact ⟨fun h => ⟨h.1.symm, h.2.symm⟩, fun h => ⟨h.1.symm, h.2.symm⟩⟩
def unitsW (cl : Nat → Nat → Int) (x : WallT) : List (Nat × Nat) := (List.range x.2.2.2).map fun i => ((sidesL cl x.1 x.2.1 (x.2.2.1 + i)).1.toNat, (sidesL cl x.1 x.2.1 (x.2.2.1 + i)).2.toNat)
theorem unitsW_len (cl : Nat → Nat → Int) (x : WallT) : (unitsW cl x).length = x.2.2.2 := by unfold unitsW; rw [List.length_map, List.length_range]
theorem unitsW_get (cl : Nat → Nat → Int) (x : WallT) {m : Nat} (hm : m < x.2.2.2) : (unitsW cl x).take (m + 1) = (unitsW cl x).take m ++ [((sidesL cl x.1 x.2.1 (x.2.2.1 + m)).1.toNat, (sidesL cl x.1 x.2.1 (x.2.2.1 + m)).2.toNat)] := by
  rw [List.take_succ_eq_append_getElem (by rw [unitsW_len]; exact hm)]
  congr 2
  unfold unitsW
  rw [List.getElem_map, List.getElem_range]
def unitsTo (cl : Nat → Nat → Int) (L : List WallT) (k : Nat) : List (Nat × Nat) := (L.take k).flatMap (unitsW cl)
theorem unitsTo_succ (cl : Nat → Nat → Int) (L : List WallT) {k : Nat} (hk : k < L.length) : unitsTo cl L (k + 1) = unitsTo cl L k ++ unitsW cl L[k] := by
  unfold unitsTo
  rw [List.take_succ_eq_append_getElem hk, List.flatMap_append]
  simp
theorem unitsTo_all (cl : Nat → Nat → Int) (L : List WallT) : unitsTo cl L L.length = L.flatMap (unitsW cl) := by unfold unitsTo; rw [List.take_length]
def TouchI (T : Nat → Nat → Int) (U : List (Nat × Nat)) : Prop := ∀ a b, 0 ≤ T a b ∧ T a b ≤ 2 * (U.length : Int) ∧ (0 < T a b ↔ (a, b) ∈ U ∨ (b, a) ∈ U)
theorem TouchI.nil : TouchI (fun _ _ => 0) [] := fun a b => ⟨Int.le_refl _, Int.le_refl _, by simp⟩
theorem TouchI.more {T : Nat → Nat → Int} {U : List (Nat × Nat)} (h : TouchI T U) (x y : Nat) :
    TouchI (fun i j => if i = y ∧ j = x then (if y = x ∧ x = y then T x y + 1 else T y x) + 1 else if i = x ∧ j = y then T x y + 1 else T i j) (U ++ [(x, y)]) := by
  intro a b
  have hxy := h x y
  have hyx := h y x
  have hab := h a b
  have hl : (((U ++ [(x, y)]).length : Nat) : Int) = (U.length : Int) + 1 := by rw [List.length_append]; rfl
  rw [hl]
  have hm : ((a, b) ∈ U ++ [(x, y)] ∨ (b, a) ∈ U ++ [(x, y)]) ↔ ((a, b) ∈ U ∨ (b, a) ∈ U) ∨ (a = x ∧ b = y) ∨ (b = x ∧ a = y) := by
    simp only [List.mem_append, List.mem_singleton, Prod.mk.injEq]
    constructor
    · rintro ((h | h) | (h | h))
      · exact .inl (.inl h)
      · exact .inr (.inl h)
      · exact .inl (.inr h)
      · exact .inr (.inr h)
    · rintro ((h | h) | (h | h))
      · exact .inl (.inl h)
      · exact .inr (.inl h)
      · exact .inl (.inr h)
      · exact .inr (.inr h)
  rw [hm]
  dsimp only
  by_cases c1 : a = y ∧ b = x
  · rw [if_pos c1]
    refine ⟨?_, ?_, ?_⟩
    · split <;> omega
    · split <;> omega
    · refine ⟨fun _ => .inr (.inr ⟨c1.2, c1.1⟩), fun _ => ?_⟩
      split <;> omega
  · rw [if_neg c1]
    by_cases c2 : a = x ∧ b = y
    · rw [if_pos c2]
      exact ⟨by omega, by omega, fun _ => .inr (.inl c2), fun _ => by omega⟩
    · rw [if_neg c2]
      refine ⟨by omega, by omega, fun hh => .inl (hab.2.2.1 hh), ?_⟩
      rintro (hh | hh | hh)
      · exact hab.2.2.2 hh
      · exact absurd hh c2
      · exact absurd ⟨hh.2, hh.1⟩ c1
theorem touch_near {cl : Nat → Nat → Int} {h wd n : Nat} (hnum : ∀ i j, i < h → j < wd → ∃ q, q < n ∧ cl i j = (q : Int)) {T : Nat → Nat → Int} (hT : TouchI T ((wallsL cl h wd).flatMap (unitsW cl))) (a b : Nat) : decide (0 < T a b) = nbB cl h wd a b := by
  have mem : ∀ a b : Nat, (a, b) ∈ (wallsL cl h wd).flatMap (unitsW cl) ↔ a ≠ b ∧ ((∃ i j, i < h ∧ j + 1 < wd ∧ cl i j = (a : Int) ∧ cl i (j + 1) = (b : Int)) ∨ (∃ i j, i + 1 < h ∧ j < wd ∧ cl i j = (a : Int) ∧ cl (i + 1) j = (b : Int))) := by
    intro a b
    rw [List.mem_flatMap]
    constructor
    · rintro ⟨⟨lv, line, fr, long⟩, hx, hm⟩
      obtain ⟨k1, k2, k3, k4⟩ := wallsL_in hx
      unfold unitsW at hm
      obtain ⟨m, hm1, hm2⟩ := List.mem_map.1 hm
      have hm1 := List.mem_range.1 hm1
      dsimp only at hm1 hm2 k1 k2 k3 k4
      have hd := k4 (fr + m) (by omega) (by omega)
      unfold dfL at hd
      rw [bne_iff_ne] at hd
      cases lv with
      | true =>
        simp only [if_true] at k1 k3
        unfold sidesL at hd hm2
        simp only [if_true] at hd hm2
        obtain ⟨q1, hq1, e1⟩ := hnum (line - 1) (fr + m) (by omega) (by omega)
        obtain ⟨q2, hq2, e2⟩ := hnum line (fr + m) (by omega) (by omega)
        rw [e1, e2] at hd hm2
        injection hm2 with e3 e4
        rw [Int.toNat_natCast] at e3 e4
        subst e3 e4
        refine ⟨fun e => hd (by rw [e]), .inr ⟨line - 1, fr + m, by omega, by omega, e1, ?_⟩⟩
        rw [show line - 1 + 1 = line by omega]; exact e2
      | false =>
        simp only [Bool.false_eq_true, if_false] at k1 k3
        unfold sidesL at hd hm2
        simp only [Bool.false_eq_true, if_false] at hd hm2
        obtain ⟨q1, hq1, e1⟩ := hnum (fr + m) (line - 1) (by omega) (by omega)
        obtain ⟨q2, hq2, e2⟩ := hnum (fr + m) line (by omega) (by omega)
        rw [e1, e2] at hd hm2
        injection hm2 with e3 e4
        rw [Int.toNat_natCast] at e3 e4
        subst e3 e4
        refine ⟨fun e => hd (by rw [e]), .inl ⟨fr + m, line - 1, by omega, by omega, e1, ?_⟩⟩
        rw [show line - 1 + 1 = line by omega]; exact e2
    · rintro ⟨hne, ⟨i, j, h1, h2, e1, e2⟩ | ⟨i, j, h1, h2, e1, e2⟩⟩
      · obtain ⟨x, hx, x1, x2, x3, x4⟩ := wall_has cl (h := h) (wd := wd) false (line := j + 1) (u := i) (v := i) (by omega) (by simp; omega) (Nat.le_refl _) (by simpa using h1) (fun k k1 k2 => by
          obtain rfl : k = i := by omega
          unfold dfL sidesL
          simp only [Bool.false_eq_true, if_false]
          rw [bne_iff_ne, show j + 1 - 1 = j by omega, e1, e2]
          exact fun e => hne (Int.ofNat.inj e))
        refine ⟨x, hx, ?_⟩
        unfold unitsW
        refine List.mem_map.2 ⟨i - x.2.2.1, List.mem_range.2 (by omega), ?_⟩
        rw [x1, x2, show x.2.2.1 + (i - x.2.2.1) = i by omega]
        unfold sidesL
        simp only [Bool.false_eq_true, if_false]
        rw [show j + 1 - 1 = j by omega, e1, e2]; rfl
      · obtain ⟨x, hx, x1, x2, x3, x4⟩ := wall_has cl (h := h) (wd := wd) true (line := i + 1) (u := j) (v := j) (by omega) (by simp; omega) (Nat.le_refl _) (by simpa using h2) (fun k k1 k2 => by
          obtain rfl : k = j := by omega
          unfold dfL sidesL
          simp only [if_true]
          rw [bne_iff_ne, show i + 1 - 1 = i by omega, e1, e2]
          exact fun e => hne (Int.ofNat.inj e))
        refine ⟨x, hx, ?_⟩
        unfold unitsW
        refine List.mem_map.2 ⟨j - x.2.2.1, List.mem_range.2 (by omega), ?_⟩
        rw [x1, x2, show x.2.2.1 + (j - x.2.2.1) = j by omega]
        unfold sidesL
        simp only [if_true]
        rw [show i + 1 - 1 = i by omega, e1, e2]; rfl
  rw [Bool.eq_iff_iff, decide_eq_true_iff, nbB_iff, (hT a b).2.2, mem, mem]
  unfold BesideC
  constructor
  · rintro (⟨hne, hh⟩ | ⟨hne, hh⟩)
    · refine ⟨hne, hh.imp ?_ ?_⟩
      · rintro ⟨i, j, h1, h2, h3, h4⟩; exact ⟨i, j, h1, h2, .inl ⟨h3, h4⟩⟩
      · rintro ⟨i, j, h1, h2, h3, h4⟩; exact ⟨i, j, h1, h2, .inl ⟨h3, h4⟩⟩
    · refine ⟨hne.symm, hh.imp ?_ ?_⟩
      · rintro ⟨i, j, h1, h2, h3, h4⟩; exact ⟨i, j, h1, h2, .inr ⟨h3, h4⟩⟩
      · rintro ⟨i, j, h1, h2, h3, h4⟩; exact ⟨i, j, h1, h2, .inr ⟨h3, h4⟩⟩
  · rintro ⟨hne, ⟨i, j, h1, h2, h3 | h3⟩ | ⟨i, j, h1, h2, h3 | h3⟩⟩
    · exact .inl ⟨hne, .inl ⟨i, j, h1, h2, h3⟩⟩
    · exact .inr ⟨hne.symm, .inl ⟨i, j, h1, h2, h3⟩⟩
    · exact .inl ⟨hne, .inr ⟨i, j, h1, h2, h3⟩⟩
    · exact .inr ⟨hne.symm, .inr ⟨i, j, h1, h2, h3⟩⟩
end Go.Proofs.Ytbpppchkgjcahaa
end
