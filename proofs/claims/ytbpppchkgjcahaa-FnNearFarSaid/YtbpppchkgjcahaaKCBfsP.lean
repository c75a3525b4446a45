/- Fewest steps by rounds, in plain Lean: what the program's steps and the reference's l4Steps compute. -/
import Derived.RowKit
namespace Go.Proofs.Ytbpppchkgjcahaa
set_option linter.unusedVariables false
set_option linter.unusedSimpArgs false
def nearL (nb : Nat → Nat → Bool) (n a : Nat) : List Nat := (List.range n).filter (nb a)
theorem nearL_mem {nb : Nat → Nat → Bool} {n a y : Nat} : y ∈ nearL nb n a ↔ y < n ∧ nb a y = true := by
  unfold nearL; rw [List.mem_filter, List.mem_range]
def dAt (D : List Int) (x : Nat) : Int := D.getD x 0
theorem dAt_get {D : List Int} {x : Nat} (h : x < D.length) : D[x] = dAt D x := by
  unfold dAt; rw [List.getD_eq_getElem?_getD, List.getElem?_eq_getElem h]; rfl
theorem dAt_set (D : List Int) (b : Nat) (v : Int) (x : Nat) (hb : b < D.length) : dAt (D.set b v) x = if x = b then v else dAt D x := by
  unfold dAt
  rw [List.getD_eq_getElem?_getD, List.getD_eq_getElem?_getD, List.getElem?_set]
  by_cases e : b = x
  · subst e; rw [if_pos rfl, if_pos hb, if_pos rfl]; rfl
  · rw [if_neg e, if_neg (fun h => e h.symm)]
def visit (d : Int) (s : List Int × List Nat) (b : Nat) : List Int × List Nat := if dAt s.1 b < 0 then (s.1.set b (d + 1), s.2 ++ [b]) else s
def negN (D : List Int) : Nat := (D.filter fun x => decide (x < 0)).length
theorem negN_set : ∀ (D : List Int) (b : Nat) (v : Int), b < D.length → dAt D b < 0 → 0 ≤ v → negN (D.set b v) + 1 = negN D := by
  intro D
  induction D with
  | nil => intro b v h; exact absurd h (Nat.not_lt_zero _)
  | cons x D ih =>
    intro b v hb hd hv
    cases b with
    | zero =>
      have hx : x < 0 := hd
      unfold negN
      rw [List.set_cons_zero, List.filter_cons_of_neg (by simp; omega), List.filter_cons_of_pos (by simpa using hx)]
      rfl
    | succ b =>
      have h := ih b v (by simpa using hb) hd hv
      unfold negN at h ⊢
      rw [List.set_cons_succ]
      by_cases hx : x < 0
      · rw [List.filter_cons_of_pos (by simpa using hx), List.filter_cons_of_pos (by simpa using hx), List.length_cons, List.length_cons, h]
      · rw [List.filter_cons_of_neg (by simpa using hx), List.filter_cons_of_neg (by simpa using hx), h]
structure Met (d : Int) (l : List Nat) (D : List Int) (q : List Nat) (s : List Int × List Nat) : Prop where
  len : s.1.length = D.length
  at_ : ∀ x, x < D.length → dAt s.1 x = if dAt D x < 0 ∧ x ∈ l then d + 1 else dAt D x
  more : ∃ new, s.2 = q ++ new ∧ (∀ y, y ∈ new ↔ y ∈ l ∧ dAt D y < 0) ∧ new.length + negN s.1 = negN D
theorem met_fold (d : Int) (hd : 0 ≤ d) : ∀ (l : List Nat) (D : List Int) (q : List Nat), (∀ x ∈ l, x < D.length) → Met d l D q (l.foldl (visit d) (D, q)) := by
  intro l
  induction l with
  | nil => intro D q _; exact ⟨rfl, fun x _ => by simp, [], by simp, fun y => by simp, by simp⟩
  | cons b l ih =>
    intro D q hl
    have hb := hl b List.mem_cons_self
    rw [List.foldl_cons]
    by_cases h : dAt D b < 0
    · have e : visit d (D, q) b = (D.set b (d + 1), q ++ [b]) := by unfold visit; rw [if_pos h]
      rw [e]
      have hn := negN_set D b (d + 1) hb h (by omega)
      obtain ⟨h1, h2, new, h3, h4, h5⟩ := ih (D.set b (d + 1)) (q ++ [b]) (fun x hx => by rw [List.length_set]; exact hl x (List.mem_cons_of_mem _ hx))
      rw [List.length_set] at h1 h2
      refine ⟨h1, fun x hx => ?_, b :: new, by rw [h3]; simp, fun y => ?_, by rw [List.length_cons]; omega⟩
      · rw [h2 x hx, dAt_set D b _ x hb]
        by_cases ex : x = b
        · subst ex
          rw [if_pos rfl, if_neg (by omega), if_pos ⟨h, List.mem_cons_self⟩]
        · rw [if_neg ex]
          simp only [List.mem_cons, ex, false_or]
      · rw [List.mem_cons, h4, dAt_set D b _ y hb, List.mem_cons]
        by_cases ey : y = b
        · subst ey
          exact ⟨fun _ => ⟨.inl rfl, h⟩, fun _ => .inl rfl⟩
        · rw [if_neg ey]
          constructor
          · rintro (h | h)
            · exact absurd h ey
            · exact ⟨.inr h.1, h.2⟩
          · rintro ⟨h | h, h'⟩
            · exact absurd h ey
            · exact .inr ⟨h, h'⟩
    · have e : visit d (D, q) b = (D, q) := by unfold visit; rw [if_neg h]
      rw [e]
      obtain ⟨h1, h2, new, h3, h4, h5⟩ := ih D q (fun x hx => hl x (List.mem_cons_of_mem _ hx))
      refine ⟨h1, fun x hx => ?_, new, h3, fun y => ?_, h5⟩
      · rw [h2 x hx]
        by_cases ex : x = b
        · subst ex
          rw [if_neg (fun hh => h hh.1), if_neg (fun hh => h hh.1)]
        · simp only [List.mem_cons, ex, false_or]
      · rw [h4, List.mem_cons]
        constructor
        · rintro ⟨h, h'⟩; exact ⟨.inr h, h'⟩
        · rintro ⟨h' | h', h''⟩
          · subst h'; exact absurd h'' h
          · exact ⟨h', h''⟩
def bfs (nb : Nat → Nat → Bool) (n : Nat) : Nat → List Int → List Nat → List Int
  | _, D, [] => D
  | 0, D, _ :: _ => D
  | k + 1, D, x :: q => bfs nb n k ((nearL nb n x).foldl (visit (dAt D x)) (D, q)).1 ((nearL nb n x).foldl (visit (dAt D x)) (D, q)).2
def startL (n a : Nat) : List Int := (List.replicate n (-1)).set a 0
def stepsL (nb : Nat → Nat → Bool) (n a : Nat) : List Int := bfs nb n n (startL n a) [a]
structure BInv (nb : Nat → Nat → Bool) (n a : Nat) (D : List Int) (q : List Nat) : Prop where
  len : D.length = n
  zero : dAt D a = 0
  low : ∀ x, x < n → -1 ≤ dAt D x
  pred : ∀ x, x < n → x ≠ a → 0 ≤ dAt D x → ∃ y, y < n ∧ nb y x = true ∧ 0 ≤ dAt D y ∧ dAt D x = dAt D y + 1
  inq : ∀ x ∈ q, x < n ∧ 0 ≤ dAt D x
  done : ∀ x, x < n → 0 ≤ dAt D x → x ∉ q → ∀ y, y < n → nb x y = true → 0 ≤ dAt D y ∧ dAt D y ≤ dAt D x + 1
  sorted : q.Pairwise fun x y => dAt D x ≤ dAt D y
  top : ∀ z, z < n → ∀ x ∈ q, dAt D z ≤ dAt D x + 1
  few : ∀ x, x < n → dAt D x + (negN D : Int) < (n : Int)
theorem BInv.round {nb : Nat → Nat → Bool} {n a : Nat} {D : List Int} {x0 : Nat} {q : List Nat} (h : BInv nb n a D (x0 :: q)) (ha : a < n) :
    BInv nb n a ((nearL nb n x0).foldl (visit (dAt D x0)) (D, q)).1 ((nearL nb n x0).foldl (visit (dAt D x0)) (D, q)).2 ∧ negN ((nearL nb n x0).foldl (visit (dAt D x0)) (D, q)).1 + ((nearL nb n x0).foldl (visit (dAt D x0)) (D, q)).2.length + 1 = negN D + (x0 :: q).length := by
  obtain ⟨h0, h0'⟩ := h.inq x0 List.mem_cons_self
  have m := met_fold (dAt D x0) h0' (nearL nb n x0) D q (fun x hx => by rw [h.len]; exact (nearL_mem.1 hx).1)
  generalize (nearL nb n x0).foldl (visit (dAt D x0)) (D, q) = s at m ⊢
  obtain ⟨D', q'⟩ := s
  obtain ⟨m1, m2, new, m3, m4, m5⟩ := m
  simp only at m1 m2 m3 m5 ⊢
  rw [h.len] at m1 m2
  subst m3
  have old : ∀ x, x < n → 0 ≤ dAt D x → dAt D' x = dAt D x := fun x hx h1 => by rw [m2 x hx, if_neg (by omega)]
  have newd : ∀ x, x ∈ new → dAt D' x = dAt D x0 + 1 ∧ x < n ∧ nb x0 x = true := fun x hx => by
    obtain ⟨k1, k2⟩ := (m4 x).1 hx
    obtain ⟨k3, k4⟩ := nearL_mem.1 k1
    exact ⟨by rw [m2 x k3, if_pos ⟨k2, k1⟩], k3, k4⟩
  have two : ∀ x, x < n → 0 ≤ dAt D' x → 0 ≤ dAt D x ∨ x ∈ new := fun x hx h1 => by
    by_cases h2 : 0 ≤ dAt D x
    · exact .inl h2
    · rw [m2 x hx] at h1
      by_cases h3 : x ∈ nearL nb n x0
      · exact .inr ((m4 x).2 ⟨h3, by omega⟩)
      · rw [if_neg (fun hh => h3 hh.2)] at h1; exact .inl h1
  have srt := List.pairwise_cons.1 h.sorted
  have lq : ∀ x ∈ q, dAt D' x = dAt D x ∧ dAt D x0 ≤ dAt D x ∧ dAt D x ≤ dAt D x0 + 1 := fun x hx => by
    obtain ⟨k1, k2⟩ := h.inq x (List.mem_cons_of_mem _ hx)
    exact ⟨old x k1 k2, srt.1 x hx, h.top x k1 x0 List.mem_cons_self⟩
  refine ⟨⟨m1, ?_, ?_, ?_, ?_, ?_, ?_, ?_, ?_⟩, ?_⟩
  · rw [old a ha (by rw [h.zero]; exact Int.le_refl _), h.zero]
  · intro x hx
    rw [m2 x hx]
    have := h.low x hx
    split <;> omega
  · intro x hx hxa h1
    rcases two x hx h1 with h2 | h2
    · obtain ⟨y, k1, k2, k3, k4⟩ := h.pred x hx hxa h2
      exact ⟨y, k1, k2, by rw [old y k1 k3]; exact k3, by rw [old x hx h2, old y k1 k3]; exact k4⟩
    · obtain ⟨k1, k2, k3⟩ := newd x h2
      exact ⟨x0, h0, k3, by rw [old x0 h0 h0']; exact h0', by rw [k1, old x0 h0 h0']⟩
  · intro x hx
    rcases List.mem_append.1 hx with hx | hx
    · obtain ⟨k1, k2⟩ := h.inq x (List.mem_cons_of_mem _ hx)
      exact ⟨k1, by rw [old x k1 k2]; exact k2⟩
    · obtain ⟨k1, k2, _⟩ := newd x hx
      exact ⟨k2, by omega⟩
  · intro x hx h1 hq y hy hn
    have hq1 : x ∉ q := fun hh => hq (List.mem_append_left _ hh)
    have hq2 : x ∉ new := fun hh => hq (List.mem_append_right _ hh)
    have h2 : 0 ≤ dAt D x := (two x hx h1).resolve_right hq2
    by_cases e : x = x0
    · subst e
      rw [old x hx h2]
      have hnm : y ∈ nearL nb n x := nearL_mem.2 ⟨hy, hn⟩
      have ht := h.top y hy x List.mem_cons_self
      rw [m2 y hy]
      by_cases h3 : dAt D y < 0
      · rw [if_pos ⟨h3, hnm⟩]; omega
      · rw [if_neg (fun hh => h3 hh.1)]; omega
    · obtain ⟨k1, k2⟩ := h.done x hx h2 (fun hh => (List.mem_cons.1 hh).elim e hq1) y hy hn
      rw [old x hx h2, old y hy k1]
      exact ⟨k1, k2⟩
  · refine List.pairwise_append.2 ⟨?_, ?_, ?_⟩
    · exact srt.2.imp_of_mem fun {x y} hx hy hh => by rw [(lq x hx).1, (lq y hy).1]; exact hh
    · have e : ∀ (l : List Nat), (∀ x ∈ l, dAt D' x = dAt D x0 + 1) → l.Pairwise fun x y => dAt D' x ≤ dAt D' y := by
        intro l
        induction l with
        | nil => intro _; exact List.Pairwise.nil
        | cons x l ih =>
          intro hl
          refine List.pairwise_cons.2 ⟨fun y hy => ?_, ih fun y hy => hl y (List.mem_cons_of_mem _ hy)⟩
          rw [hl x List.mem_cons_self, hl y (List.mem_cons_of_mem _ hy)]; exact Int.le_refl _
      exact e new fun x hx => (newd x hx).1
    · intro x hx y hy
      rw [(lq x hx).1, (newd y hy).1]; exact (lq x hx).2.2
  · intro z hz x hx
    have hz1 : dAt D' z ≤ dAt D x0 + 1 := by
      have := h.top z hz x0 List.mem_cons_self
      rw [m2 z hz]; split <;> omega
    rcases List.mem_append.1 hx with hx | hx
    · obtain ⟨k1, k2, k3⟩ := lq x hx
      rw [k1]; omega
    · rw [(newd x hx).1]; omega
  · intro x hx
    have k0 := h.few x0 h0
    have k1 := h.few x hx
    by_cases h3 : dAt D x < 0 ∧ x ∈ nearL nb n x0
    · have h4 : x ∈ new := (m4 x).2 ⟨h3.2, h3.1⟩
      have h5 : 1 ≤ new.length := List.length_pos_of_mem h4
      rw [m2 x hx, if_pos h3]; omega
    · rw [m2 x hx, if_neg h3]; omega
  · rw [List.length_append, List.length_cons]; omega
structure IsDist (nb : Nat → Nat → Bool) (n a : Nat) (D : List Int) : Prop where
  len : D.length = n
  zero : dAt D a = 0
  low : ∀ x, x < n → -1 ≤ dAt D x
  pred : ∀ x, x < n → x ≠ a → 0 ≤ dAt D x → ∃ y, y < n ∧ nb y x = true ∧ 0 ≤ dAt D y ∧ dAt D x = dAt D y + 1
  step : ∀ x, x < n → 0 ≤ dAt D x → ∀ y, y < n → nb x y = true → 0 ≤ dAt D y ∧ dAt D y ≤ dAt D x + 1
  few : ∀ x, x < n → dAt D x < (n : Int)
theorem bfs_nil (nb : Nat → Nat → Bool) (n k : Nat) (D : List Int) : bfs nb n k D [] = D := by
  cases k <;> rfl
theorem bfs_dist {nb : Nat → Nat → Bool} {n a : Nat} (ha : a < n) : ∀ (k : Nat) (D : List Int) (q : List Nat), BInv nb n a D q → negN D + q.length ≤ k → IsDist nb n a (bfs nb n k D q) := by
  intro k
  induction k with
  | zero =>
    intro D q h hk
    cases q with
    | nil =>
      rw [bfs_nil]
      exact ⟨h.len, h.zero, h.low, h.pred, fun x hx h1 y hy hn => h.done x hx h1 (by simp) y hy hn, fun x hx => by have := h.few x hx; omega⟩
    | cons x q => rw [List.length_cons] at hk; omega
  | succ k ih =>
    intro D q h hk
    cases q with
    | nil =>
      rw [bfs_nil]
      exact ⟨h.len, h.zero, h.low, h.pred, fun x hx h1 y hy hn => h.done x hx h1 (by simp) y hy hn, fun x hx => by have := h.few x hx; omega⟩
    | cons x q =>
      obtain ⟨h1, h2⟩ := h.round ha
      exact ih _ _ h1 (by omega)
theorem negN_rep (n : Nat) : negN (List.replicate n (-1)) = n := by
  unfold negN
  rw [List.filter_replicate_of_pos (by decide), List.length_replicate]
theorem dAt_rep {n x : Nat} (hx : x < n) : dAt (List.replicate n (-1)) x = -1 := by
  unfold dAt
  rw [List.getD_eq_getElem?_getD, List.getElem?_replicate, if_pos hx]; rfl
theorem dAt_start {n a x : Nat} (ha : a < n) (hx : x < n) : dAt (startL n a) x = if x = a then 0 else -1 := by
  unfold startL
  rw [dAt_set _ _ _ _ (by rw [List.length_replicate]; exact ha), dAt_rep hx]
theorem start_neg {n a : Nat} (ha : a < n) : negN (startL n a) + 1 = n := by
  have := negN_set (List.replicate n (-1)) a 0 (by rw [List.length_replicate]; exact ha) (by rw [dAt_rep ha]; decide) (Int.le_refl _)
  rw [negN_rep] at this
  exact this
theorem start_inv {nb : Nat → Nat → Bool} {n a : Nat} (ha : a < n) : BInv nb n a (startL n a) [a] := by
  have h0 : dAt (startL n a) a = 0 := by rw [dAt_start ha ha, if_pos rfl]
  refine ⟨by unfold startL; rw [List.length_set, List.length_replicate], h0, fun x hx => by rw [dAt_start ha hx]; split <;> omega, fun x hx hxa h1 => ?_, fun x hx => ?_, fun x hx h1 hq => ?_, by simp, fun z hz x hx => ?_, fun x hx => ?_⟩
  · rw [dAt_start ha hx, if_neg hxa] at h1; omega
  · obtain rfl := List.mem_singleton.1 hx
    exact ⟨ha, by rw [h0]; exact Int.le_refl _⟩
  · rw [dAt_start ha hx, if_neg (fun e => hq (by simp [e]))] at h1; omega
  · obtain rfl := List.mem_singleton.1 hx
    rw [h0, dAt_start ha hz]; split <;> omega
  · have := start_neg ha
    rw [dAt_start ha hx]; split <;> omega
theorem steps_dist {nb : Nat → Nat → Bool} {n a : Nat} (ha : a < n) : IsDist nb n a (stepsL nb n a) :=
  bfs_dist ha n _ _ (start_inv ha) (by have := start_neg ha; simp; omega)
def Way (nb : Nat → Nat → Bool) (n a : Nat) : Nat → Nat → Prop
  | 0, x => x = a
  | k + 1, x => ∃ y, y < n ∧ nb y x = true ∧ Way nb n a k y
theorem Way.front {nb : Nat → Nat → Bool} {n : Nat} : ∀ {k a b x : Nat}, a < n → nb a b = true → Way nb n b k x → Way nb n a (k + 1) x := by
  intro k
  induction k with
  | zero => intro a b x ha h hw; obtain rfl : x = b := hw; exact ⟨a, ha, h, rfl⟩
  | succ k ih => rintro a b x ha h ⟨y, h1, h2, h3⟩; exact ⟨y, h1, h2, ih ha h h3⟩
theorem Way.back {nb : Nat → Nat → Bool} {n : Nat} (hs : ∀ x y, nb x y = nb y x) : ∀ {k a x : Nat}, a < n → x < n → Way nb n a k x → Way nb n x k a := by
  intro k
  induction k with
  | zero => intro a x _ _ h; exact Eq.symm (h : x = a)
  | succ k ih =>
    rintro a x ha hx ⟨y, h1, h2, h3⟩
    exact Way.front hx (by rw [hs]; exact h2) (ih ha h1 h3)
theorem IsDist.way {nb : Nat → Nat → Bool} {n a : Nat} {D : List Int} (h : IsDist nb n a D) : ∀ (k x : Nat), x < n → dAt D x = (k : Int) → Way nb n a k x := by
  intro k
  induction k with
  | zero =>
    intro x hx h0
    by_cases e : x = a
    · exact e
    · obtain ⟨y, _, _, h3, h4⟩ := h.pred x hx e (by omega)
      omega
  | succ k ih =>
    intro x hx h0
    have e : x ≠ a := fun e => by rw [e, h.zero] at h0; omega
    obtain ⟨y, h1, h2, h3, h4⟩ := h.pred x hx e (by omega)
    exact ⟨y, h1, h2, ih y h1 (by omega)⟩
theorem IsDist.least {nb : Nat → Nat → Bool} {n a : Nat} {D : List Int} (h : IsDist nb n a D) (ha : a < n) : ∀ (k x : Nat), x < n → Way nb n a k x → 0 ≤ dAt D x ∧ dAt D x ≤ (k : Int) := by
  intro k
  induction k with
  | zero => intro x hx hw; obtain rfl : x = a := hw; rw [h.zero]; exact ⟨Int.le_refl _, Int.le_refl _⟩
  | succ k ih =>
    rintro x hx ⟨y, h1, h2, h3⟩
    obtain ⟨k1, k2⟩ := ih y h1 h3
    obtain ⟨k3, k4⟩ := h.step y h1 k1 x hx h2
    exact ⟨k3, by omega⟩
theorem nat_of {v : Int} (h : 0 ≤ v) : v = ((v.toNat : Nat) : Int) := by omega
theorem steps_zero {nb : Nat → Nat → Bool} {n a b : Nat} (ha : a < n) (hb : b < n) : dAt (stepsL nb n a) b = 0 ↔ a = b := by
  refine ⟨fun h => ?_, fun h => by subst h; exact (steps_dist ha).zero⟩
  have hw : Way nb n a 0 b := (steps_dist ha).way 0 b hb h
  exact Eq.symm (hw : b = a)
theorem steps_few {nb : Nat → Nat → Bool} {n a x : Nat} (ha : a < n) (hx : x < n) : dAt (stepsL nb n a) x < (n : Int) := (steps_dist ha).few x hx
theorem steps_len {nb : Nat → Nat → Bool} {n a : Nat} (ha : a < n) : (stepsL nb n a).length = n := (steps_dist ha).len
theorem steps_one {nb : Nat → Nat → Bool} {n a b : Nat} (ha : a < n) (hb : b < n) (hn : nb a b = true) (hne : a ≠ b) : dAt (stepsL nb n a) b = 1 := by
  have h1 := (steps_dist ha).least ha 1 b hb ⟨a, ha, hn, rfl⟩
  have h2 : dAt (stepsL nb n a) b ≠ 0 := fun h => hne ((steps_zero ha hb).1 h)
  omega
end Go.Proofs.Ytbpppchkgjcahaa
