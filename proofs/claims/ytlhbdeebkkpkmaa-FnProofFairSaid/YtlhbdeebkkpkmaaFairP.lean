/- What ProofFair comes to, in plain Lean: the least of the program's proofs is the reference's first one. -/
import Derived.Test.YtlhbdeebkkpkmaaFairIs
import Derived.Test.YtlhbdeebkkpkmaaProofLoose
namespace Go.Proofs.Ytlhbdeebkkpkmaa
open Go.RowKit Go.Shelf Go.Proofs.YtlhbdeebkkpkmaaW.PrintWords Go.Proofs.YtlhbdeebkkpkmaaW.PrintMore
set_option linter.unusedVariables false

abbrev T3 := Nat × Nat × Nat
def fairOf (p : List Int) (t : T3) : Bool := unfairB (rd p (t.2.1 : Nat)) (rd p (t.1 : Nat)) (rd p ((t.1 : Int) + 1)) (rd p (t.2.2 : Nat))
def tripC (j i k : Nat) : List T3 := (List.range' (j + 2) (k - (j + 2))).map fun x => (j, i, x)
def tripB (n j i : Nat) : List T3 := (List.range' 0 i).flatMap fun x => tripC j x n
def tripA (n j : Nat) : List T3 := (List.range' 1 (j - 1)).flatMap fun x => tripB n x x
def t3text (t : T3) : List Int := [(t.2.1 : Int), (t.1 : Int), (t.2.2 : Int)]
def t3row (t : T3) : List Int := [(t.1 : Int), (t.2.1 : Int), (t.2.2 : Int)]
def fairFind (p : List Int) : Option T3 := (tripA p.length p.length).find? (fairOf p)
def fairP (p : List Int) : ByteArray × Bool :=
  if permInB p then (match fairFind p with
    | some t => (wordsB wBreak (t3text t), true)
    | none => (ByteArray.empty, false)) else (ByteArray.empty, false)

theorem tripC_start (j i : Nat) : tripC j i (j + 2) = [] := by simp [tripC]
theorem tripC_step (j i k : Nat) (h : j + 2 ≤ k) : tripC j i (k + 1) = tripC j i k ++ [(j, i, k)] := by
  unfold tripC; rw [range'_snoc _ _ h, List.map_append]; rfl
theorem tripC_end (j i n k : Nat) (h : n ≤ k) (hd : k ≤ n ∨ k = j + 2) : tripC j i k = tripC j i n := by
  rcases hd with hd | rfl
  · rw [show k = n by omega]
  · unfold tripC; rw [show n - (j + 2) = 0 by omega, show j + 2 - (j + 2) = 0 by omega]
theorem tripB_start (n j : Nat) : tripB n j 0 = [] := by simp [tripB]
theorem tripB_step (n j i : Nat) : tripB n j (i + 1) = tripB n j i ++ tripC j i n := by
  unfold tripB
  rw [show i + 1 = i + 1 - 0 by omega, range'_snoc 0 i (by omega), List.flatMap_append]
  simp
theorem tripA_start (n : Nat) : tripA n 1 = [] := by simp [tripA]
theorem tripA_step (n j : Nat) (h : 1 ≤ j) : tripA n (j + 1) = tripA n j ++ tripB n j j := by
  unfold tripA
  rw [range'_snoc 1 j h, List.flatMap_append]
  simp

/-- The program's proofs, in the order in which it finds them. -/
def badOf (p : List Int) (q : F4) : Bool := decide (q.2.1 + 1 = q.2.2.1) && unfairB (rd p (q.1 : Nat)) (rd p (q.2.1 : Nat)) (rd p (q.2.2.1 : Nat)) (rd p (q.2.2.2 : Nat))
def t3of (q : F4) : T3 := (q.2.1, q.1, q.2.2.2)
def proofsT (p : List Int) (l : List F4) : List T3 := (l.filter (badOf p)).map t3of
def fairB (p : List Int) : Bool := (foursA p.length p.length).all fun q => !badOf p q

def key (t : T3) : Nat := 100 * t.1 + 10 * t.2.1 + t.2.2
def minK (m : T3) (l : List T3) : T3 := l.foldl (fun m x => if key x < key m then x else m) m
theorem minK_spec : ∀ (l : List T3) (m : T3), (minK m l = m ∨ minK m l ∈ l) ∧ key (minK m l) ≤ key m ∧ ∀ x ∈ l, key (minK m l) ≤ key x := by
  intro l
  induction l with
  | nil => intro m; exact ⟨.inl rfl, Nat.le_refl _, by simp⟩
  | cons y t ih =>
    intro m
    have e : minK m (y :: t) = minK (if key y < key m then y else m) t := rfl
    rw [e]
    by_cases h : key y < key m
    · rw [if_pos h]
      obtain ⟨h1, h2, h3⟩ := ih y
      refine ⟨.inr (h1.elim (fun e => by rw [e]; simp) (fun e => List.mem_cons_of_mem _ e)), by omega, fun x hx => ?_⟩
      rcases List.mem_cons.1 hx with rfl | hx
      · exact h2
      · exact h3 x hx
    · rw [if_neg h]
      obtain ⟨h1, h2, h3⟩ := ih m
      refine ⟨h1.elim .inl (fun e => .inr (List.mem_cons_of_mem _ e)), h2, fun x hx => ?_⟩
      rcases List.mem_cons.1 hx with rfl | hx
      · omega
      · exact h3 x hx

theorem tripA_sorted : ∀ n, n < 8 → (tripA n n).Pairwise (fun s t => key s < key t) := by decide
theorem find_least {l : List T3} {f : T3 → Bool} (hl : l.Pairwise (fun s t => key s < key t)) {t : T3} (h : l.find? f = some t) : t ∈ l ∧ f t = true ∧ ∀ s ∈ l, f s = true → key t ≤ key s := by
  induction l with
  | nil => simp at h
  | cons y r ih =>
    rw [List.pairwise_cons] at hl
    rw [List.find?_cons] at h
    cases hy : f y with
    | true =>
      rw [hy] at h
      injection h with h
      subst h
      refine ⟨by simp, hy, fun s hs _ => ?_⟩
      rcases List.mem_cons.1 hs with rfl | hs
      · exact Nat.le_refl _
      · exact Nat.le_of_lt (hl.1 s hs)
    | false =>
      rw [hy] at h
      obtain ⟨h1, h2, h3⟩ := ih hl.2 h
      refine ⟨List.mem_cons_of_mem _ h1, h2, fun s hs hf => ?_⟩
      rcases List.mem_cons.1 hs with rfl | hs
      · rw [hy] at hf; cases hf
      · exact h3 s hs hf

theorem mem_trip {n : Nat} {t : T3} : t ∈ tripA n n ↔ t.2.1 < t.1 ∧ t.1 + 2 ≤ t.2.2 ∧ t.2.2 < n ∧ 1 ≤ t.1 ∧ t.1 < n := by
  obtain ⟨j, i, k⟩ := t
  unfold tripA tripB tripC
  simp only [List.mem_flatMap, List.mem_map, List.mem_range'_1, Prod.mk.injEq]
  constructor
  · rintro ⟨j', hj, i', hi, k', hk, rfl, rfl, rfl⟩; omega
  · intro h; exact ⟨j, by omega, i, by omega, k, by omega, rfl, rfl, rfl⟩
theorem mem_four {n : Nat} {q : F4} : q ∈ foursA n n ↔ q.1 < q.2.1 ∧ q.2.1 < q.2.2.1 ∧ q.2.2.1 < q.2.2.2 ∧ q.2.2.2 < n := by
  obtain ⟨a, b, c, d⟩ := q
  unfold foursA foursB foursC foursD
  simp only [List.mem_flatMap, List.mem_map, List.mem_range'_1, Prod.mk.injEq]
  constructor
  · rintro ⟨a', ha, b', hb, c', hc, d', hd, rfl, rfl, rfl, rfl⟩; omega
  · intro h; exact ⟨a, by omega, b, by omega, c, by omega, d, by omega, rfl, rfl, rfl, rfl⟩
theorem mem_proofs {p : List Int} {t : T3} : t ∈ proofsT p (foursA p.length p.length) ↔ t ∈ tripA p.length p.length ∧ fairOf p t = true := by
  unfold proofsT
  simp only [List.mem_map, List.mem_filter, mem_four, mem_trip]
  obtain ⟨j, i, k⟩ := t
  constructor
  · rintro ⟨⟨a, b, c, d⟩, ⟨h1, h2⟩, h3⟩
    unfold badOf at h2
    unfold t3of at h3
    simp only [Bool.and_eq_true, decide_eq_true_eq, Prod.mk.injEq] at h1 h2 h3
    obtain ⟨rfl, rfl, rfl⟩ := h3
    obtain ⟨hc, h2⟩ := h2
    refine ⟨by dsimp only; omega, ?_⟩
    unfold fairOf
    dsimp only
    rw [show ((b : Int) + 1) = ((c : Nat) : Int) by omega]
    exact h2
  · rintro ⟨h1, h2⟩
    refine ⟨(i, j, j + 1, k), ⟨by dsimp only at h1 ⊢; omega, ?_⟩, rfl⟩
    unfold badOf
    unfold fairOf at h2
    dsimp only at h2 ⊢
    rw [show (((j + 1 : Nat) : Int)) = (j : Int) + 1 by omega, h2]
    simp
theorem key_inj {s t : T3} (hs : s.1 ≤ 9 ∧ s.2.1 ≤ 9 ∧ s.2.2 ≤ 9) (ht : t.1 ≤ 9 ∧ t.2.1 ≤ 9 ∧ t.2.2 ≤ 9) (h : key s = key t) : s = t := by
  obtain ⟨a, b, c⟩ := s
  obtain ⟨d, e, f⟩ := t
  unfold key at h
  dsimp only at *
  have : a = d ∧ b = e ∧ c = f := by omega
  rw [this.1, this.2.1, this.2.2]

theorem fair_none {p : List Int} (h : proofsT p (foursA p.length p.length) = []) : fairFind p = none := by
  unfold fairFind
  rw [List.find?_eq_none]
  intro t ht hf
  have : t ∈ proofsT p (foursA p.length p.length) := mem_proofs.2 ⟨ht, hf⟩
  rw [h] at this
  cases this
theorem fair_some {p : List Int} (hp : p.length ≤ 7) {m : T3} {l : List T3} (h : proofsT p (foursA p.length p.length) = m :: l) : fairFind p = some (minK m l) := by
  have hs := minK_spec l m
  have hmem : minK m l ∈ proofsT p (foursA p.length p.length) := by rw [h]; exact hs.1.elim (fun e => by rw [e]; simp) (fun e => List.mem_cons_of_mem _ e)
  obtain ⟨h1, h2⟩ := mem_proofs.1 hmem
  cases hf : fairFind p with
  | none =>
    unfold fairFind at hf
    rw [List.find?_eq_none] at hf
    exact absurd h2 (hf _ h1)
  | some t =>
    obtain ⟨k1, k2, k3⟩ := find_least (tripA_sorted p.length (by omega)) hf
    have hle := k3 _ h1 h2
    have ht : t ∈ proofsT p (foursA p.length p.length) := mem_proofs.2 ⟨k1, k2⟩
    have hge : key (minK m l) ≤ key t := by
      rw [h] at ht
      rcases List.mem_cons.1 ht with rfl | ht
      · exact hs.2.1
      · exact hs.2.2 t ht
    rw [key_inj (by have := mem_trip.1 k1; omega) (by have := mem_trip.1 h1; omega) (Nat.le_antisymm hle hge)]

/-- Go's comparison of lists of numbers. -/
def cmpL : List Int → List Int → Int
  | [], [] => 0
  | [], _ :: _ => -1
  | _ :: _, [] => 1
  | a :: s, b :: t => if a < b then -1 else if b < a then 1 else cmpL s t
theorem cmpL_key {s t : T3} (hs : s.1 ≤ 9 ∧ s.2.1 ≤ 9 ∧ s.2.2 ≤ 9) (ht : t.1 ≤ 9 ∧ t.2.1 ≤ 9 ∧ t.2.2 ≤ 9) : cmpL (t3row s) (t3row t) < 0 ↔ key s < key t := by
  obtain ⟨a, b, c⟩ := s
  obtain ⟨d, e, f⟩ := t
  unfold key t3row
  simp only [cmpL]
  dsimp only at *
  split
  · constructor <;> intro _ <;> omega
  split
  · constructor <;> intro h <;> omega
  split
  · constructor <;> intro _ <;> omega
  split
  · constructor <;> intro h <;> omega
  split
  · constructor <;> intro _ <;> omega
  split
  · constructor <;> intro h <;> omega
  · constructor <;> intro h <;> omega
end Go.Proofs.Ytlhbdeebkkpkmaa
