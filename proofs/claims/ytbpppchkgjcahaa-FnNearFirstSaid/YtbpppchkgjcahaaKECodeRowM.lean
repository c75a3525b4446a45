/- Texts of this claim's, joined by a program: ECodeRow, ERoomsAny, EDrawNear, EBfsP, EColP, ETurn. -/
import Derived.Test.YtbpppchkgjcahaaKEPlanDraw
import Derived.Test.YtbpppchkgjcahaaKESpecGridM
import Derived.Test.YtbpppchkgjcahaaKEExPlanM
import Derived.RowKit
import Derived.Test.YtbpppchkgjcahaaKEFloorRM
section
namespace Go.Proofs.Ytbpppchkgjcahaa
open Go.RowKit Go.Shelf Go.Proofs.YtbpppchkgjcahaaW.PrintWords Go.Proofs.YtbpppchkgjcahaaW.PrintMore
set_option linter.unusedVariables false
def CodeRow (w : World) (a0 : Option Addr) (len0 cap0 : Nat) (z0 : List Int) : Prop := (a0 = none ∧ len0 = 0 ∧ cap0 = 0 ∧ z0 = []) ∨ ∃ x, a0 = some x ∧ len0 ≤ cap0 ∧ cap0 ≤ maxLen ∧ z0.length = cap0 ∧ (∀ i, i < z0.length → w.cell? (x.add i) = some (.int .u8 (z0.getD i 0))) ∧ ∀ n ∈ z0, (Lit.int .u8 n).wf = true
theorem CodeRow.code {w : World} {a0 : Option Addr} {len0 cap0 : Nat} {z0 : List Int} (h : CodeRow w a0 len0 cap0 z0) : ∃ bs, Code0 w a0 len0 cap0 bs := by
  obtain ⟨l0, rfl, hr0, hm0, hw0, hc0⟩ := ReadsInt.ofRowC h
  refine ⟨l0, hc0, Kd.C_of_reads (d := (0 : Int)) (h1 := fun _ => rfl) hr0, fun x hx => ?_⟩
  have := hw0 x hx
  unfold Lit.wf at this
  rw [Bool.and_eq_true, decide_eq_true_eq, decide_eq_true_eq] at this
  exact this
end Go.Proofs.Ytbpppchkgjcahaa
end
section
namespace Go.Proofs.Ytbpppchkgjcahaa
open Go.RowKit Go.Shelf Go.Proofs.YtbpppchkgjcahaaW.PrintWords Go.Proofs.YtbpppchkgjcahaaW.PrintMore L2
set_option linter.unusedVariables false
set_option linter.unusedSimpArgs false
end Go.Proofs.Ytbpppchkgjcahaa
end
section
namespace Go.Proofs.Ytbpppchkgjcahaa
open Go.RowKit Go.Shelf Go.Proofs.YtbpppchkgjcahaaW.PrintWords Go.Proofs.YtbpppchkgjcahaaW.PrintMore
set_option linter.unusedVariables false
set_option linter.unusedSimpArgs false
theorem DrawNearFirst_any (A : Option Addr) (n cap : Nat) (bs : List Int) (w : World) (h : Code0 w A n cap bs) :
    Calls Try.prog 29 #[.slice A n cap] w fun e w' => DrewOne w w' e := by
  have H := Aside0.mk h
  clear h
  go_enter Try.func29, Try.ntmps29
  go_wp2_with fail
  refine (l91One_any A n cap bs _ H.out).mono ?_
  rintro e w1 ⟨q, A2, c2, rfl, HD⟩
  go_wp2_with fail
  go_ret
  exact ⟨q, A2, c2, rfl, HD⟩
end Go.Proofs.Ytbpppchkgjcahaa
end
section
namespace Go.Proofs.Ytbpppchkgjcahaa
set_option linter.unusedVariables false
set_option linter.unusedSimpArgs false
def nearL (nb : Nat → Nat → Bool) (n a : Nat) : List Nat := (List.range n).filter (nb a)
theorem nearL_mem {nb : Nat → Nat → Bool} {n a y : Nat} : y ∈ nearL nb n a ↔ y < n ∧ nb a y = true := by
  unfold nearL; rw [List.mem_filter, List.mem_range]
def dAt (D : List Int) (x : Nat) : Int := D.getD x 0
theorem dAt_set (D : List Int) (b : Nat) (v : Int) (x : Nat) (hb : b < D.length) : dAt (D.set b v) x = if x = b then v else dAt D x := by
  unfold dAt
  rw [List.getD_eq_getElem?_getD, List.getD_eq_getElem?_getD, List.getElem?_set]
  by_cases e : b = x
  · subst e; rw [if_pos rfl, if_pos hb, if_pos rfl]; rfl
  · rw [if_neg e, if_neg (fun h => e h.symm)]
def visit (d : Int) (s : List Int × List Nat) (b : Nat) : List Int × List Nat := if dAt s.1 b < 0 then (s.1.set b (d + 1), s.2 ++ [b]) else s
def negN (D : List Int) : Nat := (D.filter fun x => decide (x < 0)).length
theorem negN_set : ∀ (D : List Int) (b : Nat) (v : Int), b < D.length → dAt D b < 0 → 0 ≤ v → negN (D.set b v) + 1 = negN D := by
  intro D
  induction D with
  | nil => intro b v h; exact absurd h (Nat.not_lt_zero _)
  | cons x D ih =>
    intro b v hb hd hv
    cases b with
    | zero =>
      have hx : x < 0 := hd
      unfold negN
      rw [List.set_cons_zero, List.filter_cons_of_neg (by simp; omega), List.filter_cons_of_pos (by simpa using hx)]
      rfl
    | succ b =>
      have h := ih b v (by simpa using hb) hd hv
      unfold negN at h ⊢
      rw [List.set_cons_succ]
      by_cases hx : x < 0
      · rw [List.filter_cons_of_pos (by simpa using hx), List.filter_cons_of_pos (by simpa using hx), List.length_cons, List.length_cons, h]
      · rw [List.filter_cons_of_neg (by simpa using hx), List.filter_cons_of_neg (by simpa using hx), h]
structure Met (d : Int) (l : List Nat) (D : List Int) (q : List Nat) (s : List Int × List Nat) : Prop where
  len : s.1.length = D.length
  at_ : ∀ x, x < D.length → dAt s.1 x = if dAt D x < 0 ∧ x ∈ l then d + 1 else dAt D x
  more : ∃ new, s.2 = q ++ new ∧ (∀ y, y ∈ new ↔ y ∈ l ∧ dAt D y < 0) ∧ new.length + negN s.1 = negN D
theorem met_fold (d : Int) (hd : 0 ≤ d) : ∀ (l : List Nat) (D : List Int) (q : List Nat), (∀ x ∈ l, x < D.length) → Met d l D q (l.foldl (visit d) (D, q)) := by
  intro l
  induction l with
  | nil => intro D q _; exact ⟨rfl, fun x _ => by simp, [], by simp, fun y => by simp, by simp⟩
  | cons b l ih =>
    intro D q hl
    have hb := hl b List.mem_cons_self
    rw [List.foldl_cons]
    by_cases h : dAt D b < 0
    · have e : visit d (D, q) b = (D.set b (d + 1), q ++ [b]) := by unfold visit; rw [if_pos h]
      rw [e]
      have hn := negN_set D b (d + 1) hb h (by omega)
      obtain ⟨h1, h2, new, h3, h4, h5⟩ := ih (D.set b (d + 1)) (q ++ [b]) (fun x hx => by rw [List.length_set]; exact hl x (List.mem_cons_of_mem _ hx))
      rw [List.length_set] at h1 h2
      refine ⟨h1, fun x hx => ?_, b :: new, by rw [h3]; simp, fun y => ?_, by rw [List.length_cons]; omega⟩
      · rw [h2 x hx, dAt_set D b _ x hb]
        by_cases ex : x = b
        · subst ex
          rw [if_pos rfl, if_neg (by omega), if_pos ⟨h, List.mem_cons_self⟩]
        · rw [if_neg ex]
          simp only [List.mem_cons, ex, false_or]
      · rw [List.mem_cons, h4, dAt_set D b _ y hb, List.mem_cons]
        by_cases ey : y = b
        · subst ey
          exact ⟨fun _ => ⟨.inl rfl, h⟩, fun _ => .inl rfl⟩
        · rw [if_neg ey]
          constructor
          · rintro (h | h)
            · exact absurd h ey
            · exact ⟨.inr h.1, h.2⟩
          · rintro ⟨h | h, h'⟩
            · exact absurd h ey
            · exact .inr ⟨h, h'⟩
    · have e : visit d (D, q) b = (D, q) := by unfold visit; rw [if_neg h]
      rw [e]
      obtain ⟨h1, h2, new, h3, h4, h5⟩ := ih D q (fun x hx => hl x (List.mem_cons_of_mem _ hx))
      refine ⟨h1, fun x hx => ?_, new, h3, fun y => ?_, h5⟩
      · rw [h2 x hx]
        by_cases ex : x = b
        · subst ex
          rw [if_neg (fun hh => h hh.1), if_neg (fun hh => h hh.1)]
        · simp only [List.mem_cons, ex, false_or]
      · rw [h4, List.mem_cons]
        constructor
        · rintro ⟨h, h'⟩; exact ⟨.inr h, h'⟩
        · rintro ⟨h' | h', h''⟩
          · subst h'; exact absurd h'' h
          · exact ⟨h', h''⟩
structure BInv (nb : Nat → Nat → Bool) (n a : Nat) (D : List Int) (q : List Nat) : Prop where
  len : D.length = n
  zero : dAt D a = 0
  low : ∀ x, x < n → -1 ≤ dAt D x
  pred : ∀ x, x < n → x ≠ a → 0 ≤ dAt D x → ∃ y, y < n ∧ nb y x = true ∧ 0 ≤ dAt D y ∧ dAt D x = dAt D y + 1
  inq : ∀ x ∈ q, x < n ∧ 0 ≤ dAt D x
  done : ∀ x, x < n → 0 ≤ dAt D x → x ∉ q → ∀ y, y < n → nb x y = true → 0 ≤ dAt D y ∧ dAt D y ≤ dAt D x + 1
  sorted : q.Pairwise fun x y => dAt D x ≤ dAt D y
  top : ∀ z, z < n → ∀ x ∈ q, dAt D z ≤ dAt D x + 1
  few : ∀ x, x < n → dAt D x + (negN D : Int) < (n : Int)
theorem BInv.round {nb : Nat → Nat → Bool} {n a : Nat} {D : List Int} {x0 : Nat} {q : List Nat} (h : BInv nb n a D (x0 :: q)) (ha : a < n) :
    BInv nb n a ((nearL nb n x0).foldl (visit (dAt D x0)) (D, q)).1 ((nearL nb n x0).foldl (visit (dAt D x0)) (D, q)).2 ∧ negN ((nearL nb n x0).foldl (visit (dAt D x0)) (D, q)).1 + ((nearL nb n x0).foldl (visit (dAt D x0)) (D, q)).2.length + 1 = negN D + (x0 :: q).length := by
  obtain ⟨h0, h0'⟩ := h.inq x0 List.mem_cons_self
  have m := met_fold (dAt D x0) h0' (nearL nb n x0) D q (fun x hx => by rw [h.len]; exact (nearL_mem.1 hx).1)
  generalize (nearL nb n x0).foldl (visit (dAt D x0)) (D, q) = s at m ⊢
  obtain ⟨D', q'⟩ := s
  obtain ⟨m1, m2, new, m3, m4, m5⟩ := m
  simp only at m1 m2 m3 m5 ⊢
  rw [h.len] at m1 m2
  subst m3
  have old : ∀ x, x < n → 0 ≤ dAt D x → dAt D' x = dAt D x := fun x hx h1 => by rw [m2 x hx, if_neg (by omega)]
  have newd : ∀ x, x ∈ new → dAt D' x = dAt D x0 + 1 ∧ x < n ∧ nb x0 x = true := fun x hx => by
    obtain ⟨k1, k2⟩ := (m4 x).1 hx
    obtain ⟨k3, k4⟩ := nearL_mem.1 k1
    exact ⟨by rw [m2 x k3, if_pos ⟨k2, k1⟩], k3, k4⟩
  have two : ∀ x, x < n → 0 ≤ dAt D' x → 0 ≤ dAt D x ∨ x ∈ new := fun x hx h1 => by
    by_cases h2 : 0 ≤ dAt D x
    · exact .inl h2
    · rw [m2 x hx] at h1
      by_cases h3 : x ∈ nearL nb n x0
      · exact .inr ((m4 x).2 ⟨h3, by omega⟩)
      · rw [if_neg (fun hh => h3 hh.2)] at h1; exact .inl h1
  have srt := List.pairwise_cons.1 h.sorted
  have lq : ∀ x ∈ q, dAt D' x = dAt D x ∧ dAt D x0 ≤ dAt D x ∧ dAt D x ≤ dAt D x0 + 1 := fun x hx => by
    obtain ⟨k1, k2⟩ := h.inq x (List.mem_cons_of_mem _ hx)
    exact ⟨old x k1 k2, srt.1 x hx, h.top x k1 x0 List.mem_cons_self⟩
  refine ⟨⟨m1, ?_, ?_, ?_, ?_, ?_, ?_, ?_, ?_⟩, ?_⟩
  · rw [old a ha (by rw [h.zero]; exact Int.le_refl _), h.zero]
  · intro x hx
    rw [m2 x hx]
    have := h.low x hx
    split <;> omega
  · intro x hx hxa h1
    rcases two x hx h1 with h2 | h2
    · obtain ⟨y, k1, k2, k3, k4⟩ := h.pred x hx hxa h2
      exact ⟨y, k1, k2, by rw [old y k1 k3]; exact k3, by rw [old x hx h2, old y k1 k3]; exact k4⟩
    · obtain ⟨k1, k2, k3⟩ := newd x h2
      exact ⟨x0, h0, k3, by rw [old x0 h0 h0']; exact h0', by rw [k1, old x0 h0 h0']⟩
  · intro x hx
    rcases List.mem_append.1 hx with hx | hx
    · obtain ⟨k1, k2⟩ := h.inq x (List.mem_cons_of_mem _ hx)
      exact ⟨k1, by rw [old x k1 k2]; exact k2⟩
    · obtain ⟨k1, k2, _⟩ := newd x hx
      exact ⟨k2, by omega⟩
  · intro x hx h1 hq y hy hn
    have hq1 : x ∉ q := fun hh => hq (List.mem_append_left _ hh)
    have hq2 : x ∉ new := fun hh => hq (List.mem_append_right _ hh)
    have h2 : 0 ≤ dAt D x := (two x hx h1).resolve_right hq2
    by_cases e : x = x0
    · subst e
      rw [old x hx h2]
      have hnm : y ∈ nearL nb n x := nearL_mem.2 ⟨hy, hn⟩
      have ht := h.top y hy x List.mem_cons_self
      rw [m2 y hy]
      by_cases h3 : dAt D y < 0
      · rw [if_pos ⟨h3, hnm⟩]; omega
      · rw [if_neg (fun hh => h3 hh.1)]; omega
    · obtain ⟨k1, k2⟩ := h.done x hx h2 (fun hh => (List.mem_cons.1 hh).elim e hq1) y hy hn
      rw [old x hx h2, old y hy k1]
      exact ⟨k1, k2⟩
  · refine List.pairwise_append.2 ⟨?_, ?_, ?_⟩
    · exact srt.2.imp_of_mem fun {x y} hx hy hh => by rw [(lq x hx).1, (lq y hy).1]; exact hh
    · have e : ∀ (l : List Nat), (∀ x ∈ l, dAt D' x = dAt D x0 + 1) → l.Pairwise fun x y => dAt D' x ≤ dAt D' y := by
        intro l
        induction l with
        | nil => intro _; exact List.Pairwise.nil
        | cons x l ih =>
          intro hl
          refine List.pairwise_cons.2 ⟨fun y hy => ?_, ih fun y hy => hl y (List.mem_cons_of_mem _ hy)⟩
          rw [hl x List.mem_cons_self, hl y (List.mem_cons_of_mem _ hy)]; exact Int.le_refl _
      exact e new fun x hx => (newd x hx).1
    · intro x hx y hy
      rw [(lq x hx).1, (newd y hy).1]; exact (lq x hx).2.2
  · intro z hz x hx
    have hz1 : dAt D' z ≤ dAt D x0 + 1 := by
      have := h.top z hz x0 List.mem_cons_self
      rw [m2 z hz]; split <;> omega
    rcases List.mem_append.1 hx with hx | hx
    · obtain ⟨k1, k2, k3⟩ := lq x hx
      rw [k1]; omega
    · rw [(newd x hx).1]; omega
  · intro x hx
    have k0 := h.few x0 h0
    have k1 := h.few x hx
    by_cases h3 : dAt D x < 0 ∧ x ∈ nearL nb n x0
    · have h4 : x ∈ new := (m4 x).2 ⟨h3.2, h3.1⟩
      have h5 : 1 ≤ new.length := List.length_pos_of_mem h4
      rw [m2 x hx, if_pos h3]; omega
    · rw [m2 x hx, if_neg h3]; omega
  · rw [List.length_append, List.length_cons]; omega
structure IsDist (nb : Nat → Nat → Bool) (n a : Nat) (D : List Int) : Prop where
  len : D.length = n
  zero : dAt D a = 0
  low : ∀ x, x < n → -1 ≤ dAt D x
  pred : ∀ x, x < n → x ≠ a → 0 ≤ dAt D x → ∃ y, y < n ∧ nb y x = true ∧ 0 ≤ dAt D y ∧ dAt D x = dAt D y + 1
  step : ∀ x, x < n → 0 ≤ dAt D x → ∀ y, y < n → nb x y = true → 0 ≤ dAt D y ∧ dAt D y ≤ dAt D x + 1
  few : ∀ x, x < n → dAt D x < (n : Int)
def Way (nb : Nat → Nat → Bool) (n a : Nat) : Nat → Nat → Prop
  | 0, x => x = a
  | k + 1, x => ∃ y, y < n ∧ nb y x = true ∧ Way nb n a k y
theorem Way.front {nb : Nat → Nat → Bool} {n : Nat} : ∀ {k a b x : Nat}, a < n → nb a b = true → Way nb n b k x → Way nb n a (k + 1) x := by
  intro k
  induction k with
  | zero => intro a b x ha h hw; obtain rfl : x = b := hw; exact ⟨a, ha, h, rfl⟩
  | succ k ih => rintro a b x ha h ⟨y, h1, h2, h3⟩; exact ⟨y, h1, h2, ih ha h h3⟩
end Go.Proofs.Ytbpppchkgjcahaa
end
section
namespace Go.Proofs.Ytbpppchkgjcahaa
set_option linter.unusedVariables false
set_option linter.unusedSimpArgs false
def clashAt (L : List Nat) (c b : Nat) : Bool := decide (b < L.length) && (L.getD b 0 == c)
def clashB (nb : Nat → Nat → Bool) (n : Nat) (L : List Nat) (c : Nat) : Bool := (nearL nb n L.length).any (clashAt L c)
theorem clashB_iff {nb : Nat → Nat → Bool} {n : Nat} {L : List Nat} {c : Nat} (hl : L.length ≤ n) : clashB nb n L c = true ↔ ∃ b, b < L.length ∧ nb L.length b = true ∧ L.getD b 0 = c := by
  unfold clashB clashAt
  rw [List.any_eq_true]
  constructor
  · rintro ⟨b, h1, h2⟩
    rw [Bool.and_eq_true, decide_eq_true_iff, beq_iff_eq] at h2
    exact ⟨b, h2.1, (nearL_mem.1 h1).2, h2.2⟩
  · rintro ⟨b, h1, h2, h3⟩
    refine ⟨b, nearL_mem.2 ⟨by omega, h2⟩, ?_⟩
    rw [Bool.and_eq_true, decide_eq_true_iff, beq_iff_eq]
    exact ⟨h1, h3⟩
def colS (nb : Nat → Nat → Bool) (n many : Nat) : Nat → List Nat → Option (List Nat)
  | 0, L => if L.length = n then some L else none
  | f + 1, L => if L.length = n then some L else (List.range many).findSome? fun c => if clashB nb n L c then none else colS nb n many f (L ++ [c])
theorem colS_done {nb : Nat → Nat → Bool} {n many f : Nat} {L : List Nat} (h : L.length = n) : colS nb n many f L = some L := by
  cases f <;> (unfold colS; rw [if_pos h])
theorem colS_more {nb : Nat → Nat → Bool} {n many f : Nat} {L : List Nat} (h : L.length ≠ n) : colS nb n many (f + 1) L = (List.range many).findSome? fun c => if clashB nb n L c then none else colS nb n many f (L ++ [c]) := by
  conv => lhs; unfold colS
  rw [if_neg h]
theorem find_succ {α : Type} (g : Nat → Option α) (k : Nat) : (List.range (k + 1)).findSome? g = match (List.range k).findSome? g with | some x => some x | none => g k := by
  rw [List.range_succ, List.findSome?_append]
  cases (List.range k).findSome? g with
  | some x => rfl
  | none => simp [List.findSome?_cons]; cases g k <;> rfl
theorem find_stop {α : Type} {g : Nat → Option α} {k many : Nat} {x : α} (h0 : (List.range k).findSome? g = none) (hk : k < many) (hg : g k = some x) : (List.range many).findSome? g = some x := by
  have h1 : (List.range (k + 1)).findSome? g = some x := by rw [find_succ, h0]; exact hg
  have key : ∀ d, (List.range (k + 1 + d)).findSome? g = some x := by
    intro d
    induction d with
    | zero => exact h1
    | succ d ih => rw [← Nat.add_assoc, find_succ, ih]
  have := key (many - (k + 1))
  rwa [show k + 1 + (many - (k + 1)) = many by omega] at this
theorem find_get {α : Type} {g : Nat → Option α} {many : Nat} {x : α} (h : (List.range many).findSome? g = some x) : ∃ k, k < many ∧ g k = some x ∧ (List.range k).findSome? g = none := by
  induction many with
  | zero => cases h
  | succ m ih =>
    rw [find_succ] at h
    cases hm : (List.range m).findSome? g with
    | some y =>
      rw [hm] at h
      obtain ⟨k, h1, h2, h3⟩ := ih (by rw [hm]; exact h)
      exact ⟨k, by omega, h2, h3⟩
    | none => rw [hm] at h; exact ⟨m, by omega, h, hm⟩
theorem find_any {α : Type} {g : Nat → Option α} {k many : Nat} (hk : k < many) (hg : (g k).isSome = true) : ((List.range many).findSome? g).isSome = true := by
  rw [List.findSome?_isSome_iff]
  exact ⟨k, List.mem_range.2 hk, hg⟩
structure Good (nb : Nat → Nat → Bool) (n many : Nat) (L R : List Nat) : Prop where
  len : R.length = n
  pre : ∀ j, j < L.length → R.getD j 0 = L.getD j 0
  few : ∀ j, L.length ≤ j → j < n → R.getD j 0 < many
  apart : ∀ x y, L.length ≤ x → x < n → y < x → nb x y = true → R.getD y 0 ≠ R.getD x 0
theorem getD_app {L : List Nat} {c j : Nat} (h : j < L.length) : (L ++ [c]).getD j 0 = L.getD j 0 := by
  rw [List.getD_eq_getElem?_getD, List.getD_eq_getElem?_getD, List.getElem?_append_left h]
theorem getD_last (L : List Nat) (c : Nat) : (L ++ [c]).getD L.length 0 = c := by
  rw [List.getD_eq_getElem?_getD, List.getElem?_append_right (Nat.le_refl _), Nat.sub_self]; rfl
theorem colS_good {nb : Nat → Nat → Bool} {n many : Nat} : ∀ (f : Nat) (L R : List Nat), L.length ≤ n → colS nb n many f L = some R → Good nb n many L R := by
  intro f
  induction f with
  | zero =>
    intro L R hl h
    unfold colS at h
    split at h
    · rename_i e
      obtain rfl := Option.some.inj h
      exact ⟨e, fun _ _ => rfl, fun j h1 h2 => by omega, fun x y h1 h2 => by omega⟩
    · cases h
  | succ f ih =>
    intro L R hl h
    by_cases e : L.length = n
    · rw [colS_done e] at h
      obtain rfl := Option.some.inj h
      exact ⟨e, fun _ _ => rfl, fun j h1 h2 => by omega, fun x y h1 h2 => by omega⟩
    · rw [colS_more e] at h
      obtain ⟨c, hc, hg, _⟩ := find_get h
      split at hg
      · cases hg
      · rename_i hcl
        have G := ih (L ++ [c]) R (by rw [List.length_append, List.length_singleton]; omega) hg
        have hlen : (L ++ [c]).length = L.length + 1 := by rw [List.length_append, List.length_singleton]
        have hat : R.getD L.length 0 = c := by rw [G.pre L.length (by omega), getD_last]
        refine ⟨G.len, fun j hj => by rw [G.pre j (by omega), getD_app hj], fun j h1 h2 => ?_, fun x y h1 h2 h3 h4 => ?_⟩
        · by_cases ej : j = L.length
          · rw [ej, hat]; exact hc
          · exact G.few j (by omega) h2
        · by_cases ex : x = L.length
          · subst ex
            rw [hat, G.pre y (by omega), getD_app h3]
            intro hh
            exact hcl ((clashB_iff hl).2 ⟨y, h3, h4, hh⟩)
          · exact G.apart x y (by omega) h2 h3 h4
theorem colS_full {nb : Nat → Nat → Bool} {n many : Nat} (V : Nat → Nat) (hV : ∀ x, x < n → V x < many) (hA : ∀ x y, x < n → y < x → nb x y = true → V y ≠ V x) : ∀ (f : Nat) (L : List Nat), L.length ≤ n → n ≤ L.length + f → (∀ j, j < L.length → L.getD j 0 = V j) → (colS nb n many f L).isSome = true := by
  intro f
  induction f with
  | zero => intro L h1 h2 _; rw [colS_done (by omega)]; rfl
  | succ f ih =>
    intro L h1 h2 h3
    by_cases e : L.length = n
    · rw [colS_done e]; rfl
    · rw [colS_more e]
      refine find_any (k := V L.length) (hV _ (by omega)) ?_
      have hno : ¬ clashB nb n L (V L.length) = true := fun hc => by
        obtain ⟨b, k1, k2, k3⟩ := (clashB_iff h1).1 hc
        rw [h3 b k1] at k3
        exact hA L.length b (by omega) k1 k2 k3
      rw [if_neg hno]
      refine ih (L ++ [V L.length]) (by rw [List.length_append, List.length_singleton]; omega) (by rw [List.length_append, List.length_singleton]; omega) fun j hj => ?_
      rw [List.length_append, List.length_singleton] at hj
      by_cases ej : j = L.length
      · rw [ej, getD_last]
      · rw [getD_app (by omega)]; exact h3 j (by omega)
theorem colS_many (nb : Nat → Nat → Bool) (n : Nat) : (colS nb n n n []).isSome = true :=
  colS_full (fun x => x) (fun x hx => hx) (fun x y _ h _ e => by omega) n [] (Nat.zero_le _) (by simp) (fun j hj => absurd hj (by simp))
def swapN (r v : Nat) : Nat := if v = 0 then r else if v = r then 0 else v
theorem swap_inj (r u v : Nat) (h : swapN r u = swapN r v) : u = v := by
  unfold swapN at h
  repeat' split at h
  all_goals omega
theorem colS_zero {nb : Nat → Nat → Bool} {n many : Nat} (hn : 1 ≤ n) {R : List Nat} (h : colS nb n many n [] = some R) : R.getD 0 0 = 0 := by
  have G := colS_good n [] R (Nat.zero_le _) h
  obtain ⟨f, rfl⟩ : ∃ f, n = f + 1 := ⟨n - 1, by omega⟩
  rw [colS_more (by simp)] at h
  obtain ⟨c, hc, hg, h0⟩ := find_get h
  by_cases e : c = 0
  · subst e
    split at hg
    · cases hg
    · have G2 := colS_good f ([] ++ [0]) R (by simp) hg
      rw [G2.pre 0 (by simp)]; rfl
  · exfalso
    have sinj := swap_inj (R.getD 0 0)
    have hfew := G.few 0 (Nat.zero_le _) (by omega)
    have hfull := colS_full (nb := nb) (n := f + 1) (many := many) (fun x => swapN (R.getD 0 0) (R.getD x 0)) (fun x hx => by
      have := G.few x (Nat.zero_le _) hx
      unfold swapN
      split
      · exact hfew
      · split <;> omega) (fun x y hx hy hn e2 => G.apart x y (Nat.zero_le _) hx hy hn (sinj _ _ e2)) f [0] (by simp) (by simp; omega) (fun j hj => by
      obtain rfl : j = 0 := by simpa using hj
      show 0 = swapN (R.getD 0 0) (R.getD 0 0)
      unfold swapN
      by_cases z : R.getD 0 0 = 0
      · rw [if_pos z]; exact z.symm
      · rw [if_neg z, if_pos rfl])
    have hsome : ((List.range c).findSome? fun c => if clashB nb (f + 1) [] c then none else colS nb (f + 1) many f ([] ++ [c])).isSome = true := by
      refine find_any (k := 0) (by omega) ?_
      have hno : ¬ clashB nb (f + 1) [] 0 = true := fun hc => by
        obtain ⟨b, k1, _⟩ := (clashB_iff (Nat.zero_le _)).1 hc
        simp at k1
      rw [if_neg hno]
      exact hfull
    rw [h0] at hsome
    cases hsome
end Go.Proofs.Ytbpppchkgjcahaa
end
section
namespace Go.Proofs.Ytbpppchkgjcahaa
open Go.RowKit Go.Shelf Go.Proofs.YtbpppchkgjcahaaW.PrintWords Go.Proofs.YtbpppchkgjcahaaW.PrintMore
set_option linter.unusedVariables false
set_option linter.unusedSimpArgs false
def Grown (w w' : World) (hi wd : Nat) (val : Nat → Nat → Int) (e : Ending) : Prop := ∃ (gb : Nat) (rows : List (Nat × List Int)), e = .returned (.slice (some ⟨gb, 0, none⟩) hi hi) ∧ rows.map Prod.snd = (List.range hi).map (fun r => (List.range wd).map fun c => val r c) ∧ GridAt w' gb hi rows ∧ Below w.heap.size w w'
theorem spares_of {hb : Nat} {W W' : World} (h : Below W.heap.size W W') : Spares hb W W' := fun j cs t _ hj _ => by
  rw [h.block j (Array.getElem?_eq_some_iff.1 hj).1]; exact hj
end Go.Proofs.Ytbpppchkgjcahaa
end
