/- Texts of this claim's, joined by a program: FFourD, FSpecPoints, FPtsP, FWallP, FRunP, FWallN. -/
import Derived.Lib.SlicesCompact
import Derived.Test.YtbpppchkgjcahaaKFFloorRM
import Derived.Test.YtbpppchkgjcahaaKFL7x
section
namespace Go.Proofs.Ytbpppchkgjcahaa
open Go.Lib (compact compactUpTo compactUpTo_succ keeps)
def firsts4 (a b c d : Int) : List Int := [a] ++ (if b ≠ a then [b] else []) ++ (if c ≠ a ∧ c ≠ b then [c] else []) ++ (if d ≠ a ∧ d ≠ b ∧ d ≠ c then [d] else [])
theorem firsts4_mem (a b c d x : Int) : x ∈ firsts4 a b c d ↔ x = a ∨ x = b ∨ x = c ∨ x = d := by
  unfold firsts4
  by_cases h1 : b = a <;> by_cases h2 : c = a <;> by_cases h3 : c = b <;> by_cases h4 : d = a <;> by_cases h5 : d = b <;> by_cases h6 : d = c <;> simp [h1, h2, h3, h4, h5, h6] <;> omega
theorem firsts4_nodup (a b c d : Int) : (firsts4 a b c d).Nodup := by
  unfold firsts4
  by_cases h1 : b = a <;> by_cases h2 : c = a <;> by_cases h3 : c = b <;> by_cases h4 : d = a <;> by_cases h5 : d = b <;> by_cases h6 : d = c <;> simp [h1, h2, h3, h4, h5, h6] <;> omega
theorem compact4 (p q s t : Int) : compact [p, q, s, t] = [p] ++ (if q ≠ p then [q] else []) ++ (if s ≠ q then [s] else []) ++ (if t ≠ s then [t] else []) := by
  show compactUpTo #[p, q, s, t] (0 + 1 + 1 + 1 + 1) = _
  rw [compactUpTo_succ, compactUpTo_succ, compactUpTo_succ, compactUpTo_succ]
  have h0 : compactUpTo #[p, q, s, t] 0 = [] := rfl
  have k0 : keeps #[p, q, s, t] 0 = true := by simp [keeps]
  have k1 : keeps #[p, q, s, t] (0 + 1) = decide (q ≠ p) := by simp [keeps]
  have k2 : keeps #[p, q, s, t] (0 + 1 + 1) = decide (s ≠ q) := by simp [keeps]
  have k3 : keeps #[p, q, s, t] (0 + 1 + 1 + 1) = decide (t ≠ s) := by simp [keeps]
  rw [h0, k0, k1, k2, k3]
  by_cases h1 : q = p <;> by_cases h2 : s = q <;> by_cases h3 : t = s <;> simp [h1, h2, h3]
theorem four_distinct (a b c d : Int) : (compact ([a, b, c, d].mergeSort fun x y => decide (x ≤ y))).length = (firsts4 a b c d).length := by
  have hp := List.mergeSort_perm [a, b, c, d] fun x y => decide (x ≤ y)
  have hs := List.pairwise_mergeSort (le := fun x y : Int => decide (x ≤ y)) (fun x y z h1 h2 => by simp at *; omega) (fun x y => by simp; omega) [a, b, c, d]
  have hl := hp.length_eq
  generalize ([a, b, c, d].mergeSort fun x y => decide (x ≤ y)) = L at hp hs hl
  match L, hl with
  | [p, q, s, t], _ =>
    rw [compact4]
    have hm := fun x => hp.mem_iff (a := x)
    simp only [List.pairwise_cons, decide_eq_true_eq, List.mem_cons, List.not_mem_nil, or_false] at hs
    have h1 := hs.1 q (.inl rfl)
    have h2 := hs.2.1 s (.inl rfl)
    have h3 := hs.2.2.1 t rfl
    refine List.Perm.length_eq ((List.perm_ext_iff_of_nodup ?_ (firsts4_nodup a b c d)).2 fun x => ?_)
    · by_cases e1 : q = p <;> by_cases e2 : s = q <;> by_cases e3 : t = s <;> simp [e1, e2, e3] <;> (repeat' apply And.intro) <;> (try split) <;> (try simp) <;> omega
    · rw [firsts4_mem]
      have := hm x
      simp only [List.mem_cons, List.not_mem_nil, or_false] at this
      rw [← this]
      by_cases e1 : q = p <;> by_cases e2 : s = q <;> by_cases e3 : t = s <;> simp [e1, e2, e3] <;> omega
end Go.Proofs.Ytbpppchkgjcahaa
end
section
namespace Go.Proofs.Ytbpppchkgjcahaa
open Go.RowKit Go.Shelf Go.Proofs.YtbpppchkgjcahaaW.PrintWords Go.Proofs.YtbpppchkgjcahaaW.PrintMore
set_option linter.unusedVariables false
set_option linter.unusedSimpArgs false
def meets (G : Nat → Nat → Int) (i j : Nat) : Nat := (firsts4 (G (i - 1) (j - 1)) (G (i - 1) j) (G i (j - 1)) (G i j)).length
def rowPts (G : Nat → Nat → Int) (many : Int) (i : Nat) : Nat → Nat → Nat
  | _, 0 => 0
  | j, d + 1 => (if ((meets G i j : Nat) : Int) = many then 1 else 0) + rowPts G many i (j + 1) d
def allPts (G : Nat → Nat → Int) (w : Nat) (many : Int) : Nat → Nat → Nat
  | _, 0 => 0
  | i, d + 1 => rowPts G many i 1 (w - 1) + allPts G w many (i + 1) d
theorem rowPts_le (G : Nat → Nat → Int) (many : Int) (i : Nat) : ∀ d j, rowPts G many i j d ≤ d := by
  intro d
  induction d with
  | zero => intro j; exact Nat.le_refl _
  | succ d ih => intro j; unfold rowPts; have := ih (j + 1); split <;> omega
theorem allPts_le (G : Nat → Nat → Int) (w : Nat) (many : Int) : ∀ d i, allPts G w many i d ≤ d * (w - 1) := by
  intro d
  induction d with
  | zero => intro i; exact Nat.zero_le _
  | succ d ih =>
    intro i
    unfold allPts
    have h1 := ih (i + 1)
    have h2 := rowPts_le G many i (w - 1) 1
    rw [Nat.succ_mul]; omega
end Go.Proofs.Ytbpppchkgjcahaa
end
section
namespace Go.Proofs.Ytbpppchkgjcahaa
open Go.RowKit Go.Shelf Go.Proofs.YtbpppchkgjcahaaW.PrintWords Go.Proofs.YtbpppchkgjcahaaW.PrintMore
set_option linter.unusedVariables false
set_option linter.unusedSimpArgs false
theorem sumTo_same {f g : Nat → Nat} : ∀ {n : Nat}, (∀ k, k < n → f k = g k) → sumTo f n = sumTo g n := by
  intro n
  induction n with
  | zero => intro _; rfl
  | succ n ih =>
    intro h
    unfold sumTo
    rw [ih fun k hk => h k (by omega), h n (by omega)]
theorem sumTo_plus (f g : Nat → Nat) : ∀ n, sumTo (fun k => f k + g k) n = sumTo f n + sumTo g n := by
  intro n
  induction n with
  | zero => rfl
  | succ n ih => unfold sumTo; rw [ih]; omega
theorem sumTo_nil : ∀ n, sumTo (fun _ => 0) n = 0 := by
  intro n
  induction n with
  | zero => rfl
  | succ n ih => unfold sumTo; rw [ih]
theorem sumTo_swap (f : Nat → Nat → Nat) (m : Nat) : ∀ n, sumTo (fun i => sumTo (fun j => f i j) m) n = sumTo (fun j => sumTo (fun i => f i j) n) m := by
  intro n
  induction n with
  | zero => show 0 = sumTo (fun _ => 0) m; rw [sumTo_nil]
  | succ n ih =>
    conv => lhs; unfold sumTo
    rw [ih, ← sumTo_plus]
    rfl
theorem sumTo_head (f : Nat → Nat) (n : Nat) : sumTo f (n + 1) = f 0 + sumTo (fun k => f (k + 1)) n := by
  induction n with
  | zero => show 0 + f 0 = f 0 + 0; omega
  | succ n ih =>
    rw [show sumTo f (n + 1 + 1) = sumTo f (n + 1) + f (n + 1) from rfl, ih]
    show _ = f 0 + (sumTo (fun k => f (k + 1)) n + f (n + 1))
    omega
def ptI (G : Nat → Nat → Int) (many : Int) (i j : Nat) : Nat := if ((meets G i j : Nat) : Int) = many then 1 else 0
theorem rowPts_sum (G : Nat → Nat → Int) (many : Int) (i : Nat) : ∀ d j, rowPts G many i j d = sumTo (fun x => ptI G many i (j + x)) d := by
  intro d
  induction d with
  | zero => intro j; rfl
  | succ d ih =>
    intro j
    rw [sumTo_head]
    unfold rowPts
    rw [ih (j + 1)]
    show ptI G many i j + _ = _
    congr 1
    exact sumTo_same fun k _ => by rw [show j + 1 + k = j + (k + 1) by omega]
theorem allPts_sum (G : Nat → Nat → Int) (w : Nat) (many : Int) : ∀ d i, allPts G w many i d = sumTo (fun y => sumTo (fun x => ptI G many (i + y) (1 + x)) (w - 1)) d := by
  intro d
  induction d with
  | zero => intro i; rfl
  | succ d ih =>
    intro i
    rw [sumTo_head]
    unfold allPts
    rw [ih (i + 1), rowPts_sum]
    congr 1
    exact sumTo_same fun k _ => by rw [show i + 1 + k = i + (k + 1) by omega]
theorem firsts4_len (a b c d : Int) : (firsts4 a b c d).length = 1 + (if b = a then 0 else 1) + (if c = a ∨ c = b then 0 else 1) + (if d = a ∨ d = b ∨ d = c then 0 else 1) := by
  unfold firsts4
  by_cases h1 : b = a <;> by_cases h2 : c = a <;> by_cases h3 : c = b <;> by_cases h4 : d = a <;> by_cases h5 : d = b <;> by_cases h6 : d = c <;> simp [h1, h2, h3, h4, h5, h6]
theorem flat_sq {cl : Nat → Nat → Int} {boxes : List Box} {h wd : Nat} (f : Flat cl boxes h wd) {i j : Nat} (hi : 1 ≤ i ∧ i < h) (hj : 1 ≤ j ∧ j < wd) :
    (cl (i - 1) (j - 1) = cl i j → cl (i - 1) j = cl i j ∧ cl i (j - 1) = cl i j) ∧ (cl (i - 1) j = cl i (j - 1) → cl (i - 1) (j - 1) = cl i (j - 1) ∧ cl i j = cl i (j - 1)) := by
  constructor
  · intro e
    obtain ⟨k, hk, ek⟩ := f.num i j (by omega) (by omega)
    obtain ⟨a, b, c, d, _, _, _, _, _, hb⟩ := f.box k hk
    have h1 := (hb i j (by omega) (by omega)).1 ek
    have h2 := (hb (i - 1) (j - 1) (by omega) (by omega)).1 (e.trans ek)
    rw [ek]
    exact ⟨(hb (i - 1) j (by omega) (by omega)).2 (by omega), (hb i (j - 1) (by omega) (by omega)).2 (by omega)⟩
  · intro e
    obtain ⟨k, hk, ek⟩ := f.num i (j - 1) (by omega) (by omega)
    obtain ⟨a, b, c, d, _, _, _, _, _, hb⟩ := f.box k hk
    have h1 := (hb i (j - 1) (by omega) (by omega)).1 ek
    have h2 := (hb (i - 1) j (by omega) (by omega)).1 (e.trans ek)
    rw [ek]
    exact ⟨(hb (i - 1) (j - 1) (by omega) (by omega)).2 (by omega), (hb i j (by omega) (by omega)).2 (by omega)⟩
theorem bne_dec (a b : Int) : (a != b) = !decide (b = a) := by
  by_cases h : b = a
  · subst h; simp
  · rw [bne_iff_ne.2 (fun e => h e.symm), decide_eq_false h]; rfl
def x2 (p q : Bool) : Nat := if p = q then 0 else 1
def dV (cl : Nat → Nat → Int) (j i : Nat) : Bool := cl i (j - 1) != cl i j
def dH (cl : Nat → Nat → Int) (i j : Nat) : Bool := cl (i - 1) j != cl i j
def b1 (p : Bool) : Nat := if p then 1 else 0
theorem tee_pt {cl : Nat → Nat → Int} {boxes : List Box} {h wd : Nat} (f : Flat cl boxes h wd) {i j : Nat} (hi : 1 ≤ i ∧ i < h) (hj : 1 ≤ j ∧ j < wd) :
    ptI cl 3 i j = x2 (dV cl j (i - 1)) (dV cl j i) + x2 (dH cl i (j - 1)) (dH cl i j) := by
  obtain ⟨h1, h2⟩ := flat_sq f hi hj
  unfold ptI meets x2 dV dH
  rw [firsts4_len]
  generalize cl (i - 1) (j - 1) = a at *
  generalize cl (i - 1) j = b at *
  generalize cl i (j - 1) = c at *
  generalize cl i j = d at *
  have k1 := bne_dec a b
  have k2 := bne_dec c d
  have k3 := bne_dec a c
  have k4 := bne_dec b d
  rw [k1, k2, k3, k4]
  by_cases e1 : b = a <;> by_cases e2 : c = a <;> by_cases e3 : c = b <;> by_cases e4 : d = a <;> by_cases e5 : d = b <;> by_cases e6 : d = c <;> first
    | (exfalso; omega)
    | (simp [e1, e2, e3, e4, e5, e6] <;> omega)
theorem corner_pt {cl : Nat → Nat → Int} {boxes : List Box} {h wd : Nat} (f : Flat cl boxes h wd) {i j : Nat} (hi : 1 ≤ i ∧ i < h) (hj : 1 ≤ j ∧ j < wd) :
    b1 (dH cl i j && dV cl j i) = b1 (dV cl j i && !dV cl j (i - 1)) + b1 (dH cl i j && !dH cl i (j - 1)) + ptI cl 4 i j := by
  obtain ⟨h1, h2⟩ := flat_sq f hi hj
  unfold ptI meets b1 dV dH
  rw [firsts4_len]
  generalize cl (i - 1) (j - 1) = a at *
  generalize cl (i - 1) j = b at *
  generalize cl i (j - 1) = c at *
  generalize cl i j = d at *
  have k1 := bne_dec a b
  have k2 := bne_dec c d
  have k3 := bne_dec a c
  have k4 := bne_dec b d
  rw [k1, k2, k3, k4]
  by_cases e1 : b = a <;> by_cases e2 : c = a <;> by_cases e3 : c = b <;> by_cases e4 : d = a <;> by_cases e5 : d = b <;> by_cases e6 : d = c <;> first
    | (exfalso; omega)
    | (simp [e1, e2, e3, e4, e5, e6] <;> omega)
end Go.Proofs.Ytbpppchkgjcahaa
end
section
namespace Go.Proofs.Ytbpppchkgjcahaa
open Go.RowKit Go.Shelf Go.Proofs.YtbpppchkgjcahaaW.PrintWords Go.Proofs.YtbpppchkgjcahaaW.PrintMore
set_option linter.unusedVariables false
set_option linter.unusedSimpArgs false
def runs (df : Nat → Bool) : Option Nat → Nat → Nat → List (Nat × Nat)
  | none, _, 0 => []
  | some f, i, 0 => [(f, i - f)]
  | none, i, d + 1 => if df i = true then runs df (some i) (i + 1) d else runs df none (i + 1) d
  | some f, i, d + 1 => if df i = true then runs df (some f) (i + 1) d else (f, i - f) :: runs df none (i + 1) d
end Go.Proofs.Ytbpppchkgjcahaa
end
section
namespace Go.Proofs.Ytbpppchkgjcahaa
open Go.RowKit Go.Shelf Go.Proofs.YtbpppchkgjcahaaW.PrintWords Go.Proofs.YtbpppchkgjcahaaW.PrintMore
set_option linter.unusedVariables false
set_option linter.unusedSimpArgs false
def starts (df : Nat → Bool) : Bool → Nat → Nat → Nat
  | _, _, 0 => 0
  | p, i, d + 1 => b1 (df i && !p) + starts df (df i) (i + 1) d
def turns_ (df : Nat → Bool) : Bool → Nat → Nat → Nat
  | _, _, 0 => 0
  | p, i, d + 1 => x2 p (df i) + turns_ df (df i) (i + 1) d
def lastB (df : Nat → Bool) (p : Bool) (i d : Nat) : Bool := if d = 0 then p else df (i + d - 1)
theorem runs_len (df : Nat → Bool) : ∀ (d i : Nat) (o : Option Nat), (runs df o i d).length = starts df o.isSome i d + b1 o.isSome := by
  intro d
  induction d with
  | zero => intro i o; cases o <;> rfl
  | succ d ih =>
    intro i o
    unfold starts
    cases o with
    | none =>
      unfold runs
      by_cases h : df i = true
      · rw [if_pos h, ih, h]; simp [b1]; omega
      · rw [if_neg h, ih]
        have : df i = false := by simpa using h
        rw [this]; simp [b1]
    | some f =>
      unfold runs
      by_cases h : df i = true
      · rw [if_pos h, ih, h]; simp [b1]
      · rw [if_neg h, List.length_cons, ih]
        have : df i = false := by simpa using h
        rw [this]; simp [b1]
theorem last_step (df : Nat → Bool) (p : Bool) (i d : Nat) : lastB df (df i) (i + 1) d = lastB df p i (d + 1) := by
  unfold lastB
  rw [if_neg (Nat.succ_ne_zero d)]
  by_cases h : d = 0
  · subst h; rw [if_pos rfl]; rfl
  · rw [if_neg h, show i + 1 + d - 1 = i + (d + 1) - 1 by omega]
theorem starts_turns (df : Nat → Bool) : ∀ (d i : Nat) (p : Bool), 2 * starts df p i d + b1 p = turns_ df p i d + b1 (lastB df p i d) := by
  intro d
  induction d with
  | zero => intro i p; show 2 * 0 + b1 p = 0 + b1 p; omega
  | succ d ih =>
    intro i p
    have h := ih (i + 1) (df i)
    rw [last_step df p] at h
    unfold starts turns_
    have e : 2 * b1 (df i && !p) + b1 p = x2 p (df i) + b1 (df i) := by cases p <;> cases df i <;> rfl
    omega
theorem starts_sum (df : Nat → Bool) : ∀ (d i : Nat) (p : Bool), starts df p i d = sumTo (fun x => b1 (df (i + x) && !(if x = 0 then p else df (i + x - 1)))) d := by
  intro d
  induction d with
  | zero => intro i p; rfl
  | succ d ih =>
    intro i p
    rw [sumTo_head]
    unfold starts
    rw [ih]
    congr 1
    refine sumTo_same fun k _ => ?_
    rw [if_neg (Nat.succ_ne_zero k), show i + (k + 1) = i + 1 + k by omega]
    by_cases hk : k = 0
    · subst hk; rw [if_pos rfl]; rfl
    · rw [if_neg hk]
theorem turns_sum (df : Nat → Bool) : ∀ (d i : Nat) (p : Bool), turns_ df p i d = sumTo (fun x => x2 (if x = 0 then p else df (i + x - 1)) (df (i + x))) d := by
  intro d
  induction d with
  | zero => intro i p; rfl
  | succ d ih =>
    intro i p
    rw [sumTo_head]
    unfold turns_
    rw [ih]
    congr 1
    refine sumTo_same fun k _ => ?_
    rw [if_neg (Nat.succ_ne_zero k), show i + (k + 1) = i + 1 + k by omega]
    by_cases hk : k = 0
    · subst hk; rw [if_pos rfl]; rfl
    · rw [if_neg hk]
def endsRun (h : Nat) (L : List (Nat × Nat)) : Nat := (L.map fun x => (if x.1 = 0 then 1 else 0) + (if x.1 + x.2 = h then 1 else 0)).sum
theorem runs_ends_on (df : Nat → Bool) (h : Nat) : ∀ (d i : Nat) (o : Option Nat), i + d = h → 1 ≤ i → (∀ f, o = some f → f < i) → endsRun h (runs df o i d) = b1 (lastB df o.isSome i d) + (if o = some 0 then 1 else 0) := by
  intro d
  induction d with
  | zero =>
    intro i o hi h1 ho
    cases o with
    | none => rfl
    | some f =>
      have := ho f rfl
      unfold runs endsRun lastB b1
      rw [if_pos rfl]
      show ((if f = 0 then 1 else 0) + (if f + (i - f) = h then 1 else 0)) + 0 = _
      rw [if_pos (show f + (i - f) = h by omega)]
      simp
      omega
  | succ d ih =>
    intro i o hi h1 ho
    rw [← last_step df o.isSome]
    cases o with
    | none =>
      unfold runs
      by_cases h : df i = true
      · rw [if_pos h, ih (i + 1) (some i) (by omega) (by omega) (fun f e => by injection e with e; omega), h]
        rw [if_neg (fun e => by injection e with e; omega), if_neg (fun e => by cases e)]
        rfl
      · have hf : df i = false := by simpa using h
        rw [if_neg h, ih (i + 1) none (by omega) (by omega) (fun f e => by cases e), hf]
        rfl
    | some f =>
      have hfi := ho f rfl
      unfold runs
      by_cases h : df i = true
      · rw [if_pos h, ih (i + 1) (some f) (by omega) (by omega) (fun f' e => by injection e with e; omega), h]
        rfl
      · have hf : df i = false := by simpa using h
        rw [if_neg h, hf]
        have := ih (i + 1) none (by omega) (by omega) (fun f e => by cases e)
        unfold endsRun at this ⊢
        rw [List.map_cons, List.sum_cons, this]
        show ((if f = 0 then 1 else 0) + (if f + (i - f) = _ then 1 else 0)) + (b1 (lastB df false (i + 1) d) + 0) = b1 (lastB df false (i + 1) d) + (if some f = some 0 then 1 else 0)
        rw [if_neg (show ¬ f + (i - f) = _ by omega)]
        by_cases f0 : f = 0
        · subst f0; simp; omega
        · rw [if_neg f0, if_neg (fun e => f0 (by injection e))]; omega
theorem runs_ends (df : Nat → Bool) {h : Nat} (hh : 1 ≤ h) : endsRun h (runs df none 0 h) = b1 (df 0) + b1 (df (h - 1)) := by
  obtain ⟨d, rfl⟩ : ∃ d, h = d + 1 := ⟨h - 1, by omega⟩
  have hl : lastB df (df 0) 1 d = df (d + 1 - 1) := by
    rw [show (1 : Nat) = 0 + 1 from rfl, last_step df true]
    unfold lastB
    rw [if_neg (Nat.succ_ne_zero d), Nat.zero_add]
  unfold runs
  by_cases h : df 0 = true
  · rw [if_pos h, runs_ends_on df (d + 1) d (0 + 1) (some 0) (by omega) (by omega) (fun f e => by injection e with e; omega), if_pos rfl, ← hl, h]
    show b1 (lastB df true 1 d) + 1 = b1 true + b1 (lastB df true 1 d)
    rw [show b1 true = 1 from rfl]; omega
  · have hf : df 0 = false := by simpa using h
    rw [if_neg h, runs_ends_on df (d + 1) d (0 + 1) none (by omega) (by omega) (fun f e => by cases e), if_neg (fun e => by cases e), ← hl, hf]
    show b1 (lastB df false 1 d) + 0 = b1 false + b1 (lastB df false 1 d)
    rw [show b1 false = 0 from rfl]; omega
theorem runs_twice (df : Nat → Bool) {h : Nat} (hh : 1 ≤ h) : 2 * (runs df none 0 h).length = sumTo (fun x => x2 (df x) (df (1 + x))) (h - 1) + endsRun h (runs df none 0 h) := by
  rw [runs_ends df hh, runs_len]
  have := starts_turns df h 0 false
  obtain ⟨d, rfl⟩ : ∃ d, h = d + 1 := ⟨h - 1, by omega⟩
  rw [turns_sum, sumTo_head] at this
  have hl : lastB df false 0 (d + 1) = df (d + 1 - 1) := by unfold lastB; rw [if_neg (Nat.succ_ne_zero d), Nat.zero_add]
  rw [hl] at this
  have e1 : sumTo (fun k => x2 (if k + 1 = 0 then false else df (0 + (k + 1) - 1)) (df (0 + (k + 1)))) d = sumTo (fun x => x2 (df x) (df (1 + x))) d := sumTo_same fun k _ => by
    rw [if_neg (Nat.succ_ne_zero k), show 0 + (k + 1) - 1 = k by omega, show 0 + (k + 1) = 1 + k by omega]
  rw [e1] at this
  have e2 : x2 (if (0 : Nat) = 0 then false else df (0 + 0 - 1)) (df (0 + 0)) = b1 (df 0) := by
    rw [if_pos rfl]; show x2 false (df 0) = _; cases df 0 <;> rfl
  rw [e2] at this
  have e3 : b1 false = 0 := rfl
  show 2 * (starts df false 0 (d + 1) + b1 false) = _
  rw [show d + 1 - 1 = d by omega] at this ⊢
  omega
theorem runs_starts (df : Nat → Bool) {h : Nat} (hh : 1 ≤ h) : (runs df none 0 h).length = b1 (df 0) + sumTo (fun x => b1 (df (1 + x) && !df x)) (h - 1) := by
  rw [runs_len]
  obtain ⟨d, rfl⟩ : ∃ d, h = d + 1 := ⟨h - 1, by omega⟩
  show starts df false 0 (d + 1) + 0 = _
  rw [starts_sum, sumTo_head, Nat.add_zero]
  congr 1
  · rw [if_pos rfl]; simp
  · rw [show d + 1 - 1 = d by omega]
    refine sumTo_same fun k _ => ?_
    rw [if_neg (Nat.succ_ne_zero k), show 0 + (k + 1) - 1 = k by omega, show 0 + (k + 1) = 1 + k by omega]
end Go.Proofs.Ytbpppchkgjcahaa
end
section
namespace Go.Proofs.Ytbpppchkgjcahaa
open Go.RowKit Go.Shelf Go.Proofs.YtbpppchkgjcahaaW.PrintWords Go.Proofs.YtbpppchkgjcahaaW.PrintMore
set_option linter.unusedVariables false
set_option linter.unusedSimpArgs false
def upN (cl : Nat → Nat → Int) (h wd : Nat) : Nat := sumTo (fun x => (runs (dV cl (1 + x)) none 0 h).length) (wd - 1)
def lvN (cl : Nat → Nat → Int) (h wd : Nat) : Nat := sumTo (fun y => (runs (dH cl (1 + y)) none 0 wd).length) (h - 1)
def endN (cl : Nat → Nat → Int) (h wd : Nat) : Nat := sumTo (fun x => endsRun h (runs (dV cl (1 + x)) none 0 h)) (wd - 1) + sumTo (fun y => endsRun wd (runs (dH cl (1 + y)) none 0 wd)) (h - 1)
theorem sumTo_mul (f : Nat → Nat) (c : Nat) : ∀ n, sumTo (fun k => c * f k) n = c * sumTo f n := by
  intro n
  induction n with
  | zero => rfl
  | succ n ih => unfold sumTo; rw [ih, Nat.mul_add]
theorem tees_law {cl : Nat → Nat → Int} {boxes : List Box} {h wd : Nat} (f : Flat cl boxes h wd) : allPts cl wd 3 1 (h - 1) + endN cl h wd = 2 * (upN cl h wd + lvN cl h wd) := by
  have hh := f.high.1
  have hw := f.wide.1
  have e1 : 2 * upN cl h wd = sumTo (fun x => sumTo (fun y => x2 (dV cl (1 + x) y) (dV cl (1 + x) (1 + y))) (h - 1)) (wd - 1) + sumTo (fun x => endsRun h (runs (dV cl (1 + x)) none 0 h)) (wd - 1) := by
    unfold upN
    rw [← sumTo_mul, ← sumTo_plus]
    exact sumTo_same fun x _ => runs_twice _ hh
  have e2 : 2 * lvN cl h wd = sumTo (fun y => sumTo (fun x => x2 (dH cl (1 + y) x) (dH cl (1 + y) (1 + x))) (wd - 1)) (h - 1) + sumTo (fun y => endsRun wd (runs (dH cl (1 + y)) none 0 wd)) (h - 1) := by
    unfold lvN
    rw [← sumTo_mul, ← sumTo_plus]
    exact sumTo_same fun y _ => runs_twice _ hw
  have e3 : allPts cl wd 3 1 (h - 1) = sumTo (fun x => sumTo (fun y => x2 (dV cl (1 + x) y) (dV cl (1 + x) (1 + y))) (h - 1)) (wd - 1) + sumTo (fun y => sumTo (fun x => x2 (dH cl (1 + y) x) (dH cl (1 + y) (1 + x))) (wd - 1)) (h - 1) := by
    rw [allPts_sum, sumTo_swap (fun x y => x2 (dV cl (1 + x) y) (dV cl (1 + x) (1 + y))), ← sumTo_plus]
    refine sumTo_same fun y hy => ?_
    rw [← sumTo_plus]
    refine sumTo_same fun x hx => ?_
    rw [tee_pt f (show 1 ≤ 1 + y ∧ 1 + y < h by omega) (show 1 ≤ 1 + x ∧ 1 + x < wd by omega), show 1 + y - 1 = y by omega, show 1 + x - 1 = x by omega]
  unfold endN
  omega
theorem sumTo_only {P : Nat → Prop} [DecidablePred P] {k0 : Nat} (h : ∀ k, P k → k = k0) : ∀ n, sumTo (fun k => if P k then 1 else 0) n = if k0 < n ∧ P k0 then 1 else 0 := by
  intro n
  induction n with
  | zero => rw [if_neg (by omega)]; rfl
  | succ n ih =>
    unfold sumTo
    rw [ih]
    by_cases hn : P n
    · have := h n hn
      subst this
      rw [if_neg (by omega), if_pos hn, if_pos ⟨by omega, hn⟩]
    · rw [if_neg hn]
      by_cases hk : k0 < n ∧ P k0
      · rw [if_pos hk, if_pos ⟨by omega, hk.2⟩]
      · rw [if_neg hk, if_neg ?_]
        rintro ⟨a, b⟩
        exact hk ⟨by
          rcases Nat.lt_or_ge k0 n with h1 | h1
          · exact h1
          · have : k0 = n := by omega
            subst this; exact absurd b hn, b⟩
def cornA (boxes : List Box) (k : Nat) : Nat := (boxes.getD k (0, 0, 0, 0)).1.toNat
def cornB (boxes : List Box) (k : Nat) : Nat := (boxes.getD k (0, 0, 0, 0)).2.1.toNat
def corner (cl : Nat → Nat → Int) (i j : Nat) : Nat := b1 ((decide (i = 0) || dH cl i j) && (decide (j = 0) || dV cl j i))
theorem corn_at {cl : Nat → Nat → Int} {boxes : List Box} {h wd : Nat} (f : Flat cl boxes h wd) {k : Nat} (hk : k < boxes.length) : ∃ c d : Nat, 1 ≤ c ∧ 1 ≤ d ∧ cornA boxes k + c ≤ h ∧ cornB boxes k + d ≤ wd ∧ ∀ i j, i < h → j < wd → (cl i j = (k : Int) ↔ (cornA boxes k ≤ i ∧ i < cornA boxes k + c) ∧ (cornB boxes k ≤ j ∧ j < cornB boxes k + d)) := by
  obtain ⟨a, b, c, d, e, h1, h2, h3, h4, h5⟩ := f.box k hk
  have ea : cornA boxes k = a := by unfold cornA; rw [List.getD_eq_getElem?_getD, List.getElem?_eq_getElem hk]; show boxes[k].1.toNat = a; rw [e]; rfl
  have eb : cornB boxes k = b := by unfold cornB; rw [List.getD_eq_getElem?_getD, List.getElem?_eq_getElem hk]; show boxes[k].2.1.toNat = b; rw [e]; rfl
  rw [ea, eb]
  exact ⟨c, d, h1, h2, h3, h4, h5⟩
theorem corner_sum {cl : Nat → Nat → Int} {boxes : List Box} {h wd : Nat} (f : Flat cl boxes h wd) {i j : Nat} (hi : i < h) (hj : j < wd) : corner cl i j = sumTo (fun k => if cornA boxes k = i ∧ cornB boxes k = j ∧ k < boxes.length then 1 else 0) boxes.length := by
  obtain ⟨k0, hk0, e0⟩ := f.num i j hi hj
  obtain ⟨c, d, hc, hd, hac, hbd, hb⟩ := corn_at f hk0
  rw [sumTo_only (P := fun k => cornA boxes k = i ∧ cornB boxes k = j ∧ k < boxes.length) (k0 := k0)]
  · obtain ⟨h1, h2⟩ := (hb i j hi hj).1 e0
    have key : ((decide (i = 0) || dH cl i j) && (decide (j = 0) || dV cl j i)) = decide (cornA boxes k0 = i ∧ cornB boxes k0 = j) := by
      rw [Bool.eq_iff_iff]
      simp only [Bool.and_eq_true, Bool.or_eq_true, decide_eq_true_eq]
      constructor
      · rintro ⟨g1, g2⟩
        constructor
        · rcases g1 with g1 | g1
          · omega
          · apply Classical.byContradiction
            intro hne
            have := (hb (i - 1) j (by omega) hj).2 (by omega)
            unfold dH at g1
            rw [this, e0] at g1
            simp at g1
        · rcases g2 with g2 | g2
          · omega
          · apply Classical.byContradiction
            intro hne
            have := (hb i (j - 1) hi (by omega)).2 (by omega)
            unfold dV at g2
            rw [this, e0] at g2
            simp at g2
      · rintro ⟨g1, g2⟩
        constructor
        · by_cases i0 : i = 0
          · exact .inl i0
          · refine .inr ?_
            unfold dH
            rw [bne_iff_ne, e0]
            intro e
            have := (hb (i - 1) j (by omega) hj).1 e
            omega
        · by_cases j0 : j = 0
          · exact .inl j0
          · refine .inr ?_
            unfold dV
            rw [bne_iff_ne, e0]
            intro e
            have := (hb i (j - 1) hi (by omega)).1 e
            omega
    unfold corner
    rw [key]
    by_cases g : cornA boxes k0 = i ∧ cornB boxes k0 = j
    · rw [if_pos ⟨hk0, g.1, g.2, hk0⟩, decide_eq_true g]; rfl
    · rw [if_neg (fun e => g ⟨e.2.1, e.2.2.1⟩), decide_eq_false g]; rfl
  · rintro k ⟨ka, kb, kl⟩
    obtain ⟨c', d', hc', hd', hac', hbd', hb'⟩ := corn_at f kl
    have := (hb' i j hi hj).2 (by omega)
    omega
theorem rooms_corners {cl : Nat → Nat → Int} {boxes : List Box} {h wd : Nat} (f : Flat cl boxes h wd) : boxes.length = sumTo (fun i => sumTo (fun j => corner cl i j) wd) h := by
  have e1 : sumTo (fun i => sumTo (fun j => corner cl i j) wd) h = sumTo (fun i => sumTo (fun k => sumTo (fun j => if cornA boxes k = i ∧ cornB boxes k = j ∧ k < boxes.length then 1 else 0) wd) boxes.length) h := by
    refine sumTo_same fun i hi => ?_
    rw [← sumTo_swap (fun j k => if cornA boxes k = i ∧ cornB boxes k = j ∧ k < boxes.length then 1 else 0)]
    exact sumTo_same fun j hj => corner_sum f hi hj
  rw [e1, sumTo_swap]
  have e2 : ∀ k, k < boxes.length → sumTo (fun i => sumTo (fun j => if cornA boxes k = i ∧ cornB boxes k = j ∧ k < boxes.length then 1 else 0) wd) h = 1 := fun k hk => by
    obtain ⟨c, d, hc, hd, hac, hbd, _⟩ := corn_at f hk
    have e3 : ∀ i, sumTo (fun j => if cornA boxes k = i ∧ cornB boxes k = j ∧ k < boxes.length then 1 else 0) wd = if cornA boxes k = i then 1 else 0 := fun i => by
      rw [sumTo_only (P := fun j => cornA boxes k = i ∧ cornB boxes k = j ∧ k < boxes.length) (k0 := cornB boxes k) (fun j hj => hj.2.1.symm)]
      by_cases g : cornA boxes k = i
      · rw [if_pos ⟨by omega, g, rfl, hk⟩, if_pos g]
      · rw [if_neg (fun e => g e.2.1), if_neg g]
    rw [sumTo_same fun i _ => e3 i, sumTo_only (P := fun i => cornA boxes k = i) (k0 := cornA boxes k) (fun i hi => hi.symm), if_pos ⟨by omega, rfl⟩]
  rw [sumTo_same e2]
  clear e1 e2
  generalize boxes.length = n
  induction n with
  | zero => rfl
  | succ n ih => unfold sumTo; rw [← ih]
theorem walls_law {cl : Nat → Nat → Int} {boxes : List Box} {h wd : Nat} (f : Flat cl boxes h wd) : boxes.length = upN cl h wd + lvN cl h wd + allPts cl wd 4 1 (h - 1) + 1 := by
  have hh := f.high.1
  have hw := f.wide.1
  obtain ⟨H, rfl⟩ : ∃ H, h = H + 1 := ⟨h - 1, by omega⟩
  obtain ⟨W, rfl⟩ : ∃ W, wd = W + 1 := ⟨wd - 1, by omega⟩
  rw [rooms_corners f, sumTo_head, sumTo_head]
  have c0 : corner cl 0 0 = 1 := rfl
  have c1 : sumTo (fun k => corner cl 0 (k + 1)) W = sumTo (fun x => b1 (dV cl (1 + x) 0)) W := sumTo_same fun x _ => by
    unfold corner
    rw [decide_eq_true rfl, decide_eq_false (Nat.succ_ne_zero x), Bool.true_or, Bool.true_and, Bool.false_or, Nat.add_comm x 1]
  have c2 : sumTo (fun k => sumTo (fun j => corner cl (k + 1) j) (W + 1)) H = sumTo (fun y => b1 (dH cl (1 + y) 0)) H + sumTo (fun y => sumTo (fun x => b1 (dH cl (1 + y) (1 + x) && dV cl (1 + x) (1 + y))) W) H := by
    rw [← sumTo_plus]
    refine sumTo_same fun y _ => ?_
    rw [sumTo_head]
    congr 1
    · unfold corner
      rw [decide_eq_true rfl, decide_eq_false (Nat.succ_ne_zero y), Bool.true_or, Bool.and_true, Bool.false_or, Nat.add_comm y 1]
    · refine sumTo_same fun x _ => ?_
      unfold corner
      rw [decide_eq_false (Nat.succ_ne_zero x), decide_eq_false (Nat.succ_ne_zero y), Bool.false_or, Bool.false_or, Nat.add_comm x 1, Nat.add_comm y 1]
  have c3 : sumTo (fun y => sumTo (fun x => b1 (dH cl (1 + y) (1 + x) && dV cl (1 + x) (1 + y))) W) H = sumTo (fun y => sumTo (fun x => b1 (dV cl (1 + x) (1 + y) && !dV cl (1 + x) y)) W) H + sumTo (fun y => sumTo (fun x => b1 (dH cl (1 + y) (1 + x) && !dH cl (1 + y) x)) W) H + allPts cl (W + 1) 4 1 H := by
    rw [allPts_sum, ← sumTo_plus, ← sumTo_plus]
    refine sumTo_same fun y hy => ?_
    rw [show W + 1 - 1 = W by omega, ← sumTo_plus, ← sumTo_plus]
    refine sumTo_same fun x hx => ?_
    have := corner_pt f (show 1 ≤ 1 + y ∧ 1 + y < H + 1 by omega) (show 1 ≤ 1 + x ∧ 1 + x < W + 1 by omega)
    rwa [show 1 + y - 1 = y by omega, show 1 + x - 1 = x by omega] at this
  have e1 : upN cl (H + 1) (W + 1) = sumTo (fun x => b1 (dV cl (1 + x) 0)) W + sumTo (fun x => sumTo (fun y => b1 (dV cl (1 + x) (1 + y) && !dV cl (1 + x) y)) H) W := by
    unfold upN
    rw [show W + 1 - 1 = W by omega, ← sumTo_plus]
    refine sumTo_same fun x _ => ?_
    rw [runs_starts _ hh, show H + 1 - 1 = H by omega]
  have e2 : lvN cl (H + 1) (W + 1) = sumTo (fun y => b1 (dH cl (1 + y) 0)) H + sumTo (fun y => sumTo (fun x => b1 (dH cl (1 + y) (1 + x) && !dH cl (1 + y) x)) W) H := by
    unfold lvN
    rw [show H + 1 - 1 = H by omega, ← sumTo_plus]
    refine sumTo_same fun y _ => ?_
    rw [runs_starts _ hw, show W + 1 - 1 = W by omega]
  have e3 := sumTo_swap (fun x y => b1 (dV cl (1 + x) (1 + y) && !dV cl (1 + x) y)) H W
  rw [c0, c1, c2, c3, e1, e2, e3, show H + 1 - 1 = H by omega]
  omega
end Go.Proofs.Ytbpppchkgjcahaa
end
