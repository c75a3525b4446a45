/- Texts of this claim's, joined by a program: DDeepP, DRoundReg. -/
import Derived.Test.YtdhnjecbdclmaaaKDHered
import Derived.Test.YtdhnjecbdclmaaaKDBase
import Derived.Deep.RegionHeld3
section
namespace Go.Proofs.Ytdhnjecbdclmaaa
open Go.RowKit Go.Shelf Go.Proofs.YtdhnjecbdclmaaaW.PrintWords Go.Proofs.YtdhnjecbdclmaaaW.PrintMore
set_option linter.unusedVariables false
def stepD (best o1 o2 : Option Nat) : Option Nat := match o1, o2 with
  | some a, some b => (match best with
    | none => some (1 + max a b)
    | some e => if 1 + max a b < e then some (1 + max a b) else some e)
  | _, _ => best
def deepO (cl : Nat → Nat → Int) (boxes : List Box) : Nat → Rc → Option Nat
  | 0, _ => none
  | n + 1, (r, c, ph, pw) => if (listL boxes (natB r c ph pw) boxes.length).length = 1 then some 0 else (cutsL cl r c ph pw).foldl (fun b x => stepD b (deepO cl boxes n (oneR r c ph pw x)) (deepO cl boxes n (twoR r c ph pw x))) none
def deepS (cl : Nat → Nat → Int) (boxes : List Box) (n r c ph pw : Nat) (pre : List (Bool × Nat)) : Option Nat := pre.foldl (fun b x => stepD b (deepO cl boxes n (oneR r c ph pw x)) (deepO cl boxes n (twoR r c ph pw x))) none
theorem deepS_snoc (cl : Nat → Nat → Int) (boxes : List Box) (n r c ph pw : Nat) (pre : List (Bool × Nat)) (x : Bool × Nat) : deepS cl boxes n r c ph pw (pre ++ [x]) = stepD (deepS cl boxes n r c ph pw pre) (deepO cl boxes n (oneR r c ph pw x)) (deepO cl boxes n (twoR r c ph pw x)) := by
  unfold deepS
  rw [List.foldl_append]; rfl
theorem stepD_lt {best o1 o2 : Option Nat} {n : Nat} (hb : ∀ d, best = some d → d ≤ n) (h1 : ∀ d, o1 = some d → d < n) (h2 : ∀ d, o2 = some d → d < n) : ∀ d, stepD best o1 o2 = some d → d ≤ n := by
  intro d hd
  unfold stepD at hd
  split at hd
  · rename_i a b
    have := h1 a rfl
    have := h2 b rfl
    split at hd
    · obtain rfl := Option.some.inj hd; omega
    · rename_i e
      split at hd
      · obtain rfl := Option.some.inj hd; omega
      · exact hb d hd
  · exact hb d hd
theorem deep_lt (cl : Nat → Nat → Int) (boxes : List Box) : ∀ (n : Nat) (R : Rc) (d : Nat), deepO cl boxes n R = some d → d < n := by
  intro n
  induction n with
  | zero => intro R d h; cases h
  | succ n ih =>
    rintro ⟨r, c, ph, pw⟩ d h
    unfold deepO at h
    split at h
    · obtain rfl := Option.some.inj h; omega
    · have key : ∀ (l : List (Bool × Nat)) (b : Option Nat), (∀ d, b = some d → d ≤ n) → ∀ d, l.foldl (fun b x => stepD b (deepO cl boxes n (oneR r c ph pw x)) (deepO cl boxes n (twoR r c ph pw x))) b = some d → d ≤ n := by
        intro l
        induction l with
        | nil => intro b hb d hd; exact hb d hd
        | cons x l ihl => intro b hb d hd; exact ihl _ (stepD_lt hb (fun d => ih _ d) (fun d => ih _ d)) d hd
      have := key _ none (fun d h => by cases h) d h
      omega
theorem deepS_lt (cl : Nat → Nat → Int) (boxes : List Box) (n r c ph pw : Nat) : ∀ (pre : List (Bool × Nat)) d, deepS cl boxes n r c ph pw pre = some d → d ≤ n := by
  have key : ∀ (l : List (Bool × Nat)) (b : Option Nat), (∀ d, b = some d → d ≤ n) → ∀ d, l.foldl (fun b x => stepD b (deepO cl boxes n (oneR r c ph pw x)) (deepO cl boxes n (twoR r c ph pw x))) b = some d → d ≤ n := by
    intro l
    induction l with
    | nil => intro b hb d hd; exact hb d hd
    | cons x l ihl => intro b hb d hd; exact ihl _ (stepD_lt hb (fun d => deep_lt cl boxes n _ d) (fun d => deep_lt cl boxes n _ d)) d hd
  exact fun pre d h => key pre none (fun d h => by cases h) d h
theorem deep_pos {cl : Nat → Nat → Int} {boxes : List Box} {h wd : Nat} (f : Flat cl boxes h wd) : ∀ (n r c ph pw : Nat), ph + pw < n → Whole cl h wd r c ph pw → ((deepO cl boxes n (r, c, ph, pw)).isSome = true ↔ Pos cl boxes r c ph pw) := by
  intro n
  induction n with
  | zero => intro r c ph pw h0; omega
  | succ n ih =>
    intro r c ph pw hlt hw
    by_cases h1 : (listL boxes (natB r c ph pw) boxes.length).length = 1
    · unfold deepO Pos waysN
      rw [if_pos h1, if_pos h1]; simp
    · rw [pos_iff h1]
      have hv : deepO cl boxes (n + 1) (r, c, ph, pw) = deepS cl boxes n r c ph pw (cutsL cl r c ph pw) := by
        conv => lhs; unfold deepO
        rw [if_neg h1]; rfl
      rw [hv]
      have step : ∀ (b o1 o2 : Option Nat), (stepD b o1 o2).isSome = true ↔ b.isSome = true ∨ (o1.isSome = true ∧ o2.isSome = true) := by
        intro b o1 o2
        unfold stepD
        cases o1 with
        | none => simp
        | some a =>
          cases o2 with
          | none => simp
          | some e =>
            cases b with
            | none => simp
            | some d => simp; split <;> rfl
      have key : ∀ (l : List (Bool × Nat)) (b : Option Nat), (l.foldl (fun b x => stepD b (deepO cl boxes n (oneR r c ph pw x)) (deepO cl boxes n (twoR r c ph pw x))) b).isSome = true ↔ b.isSome = true ∨ ∃ x ∈ l, (deepO cl boxes n (oneR r c ph pw x)).isSome = true ∧ (deepO cl boxes n (twoR r c ph pw x)).isSome = true := by
        intro l
        induction l with
        | nil => intro b; simp
        | cons x l ihl =>
          intro b
          rw [List.foldl_cons, ihl, step]
          constructor
          · rintro ((a | a) | ⟨y, hy, hh⟩)
            · exact .inl a
            · exact .inr ⟨x, by simp, a⟩
            · exact .inr ⟨y, by simp [hy], hh⟩
          · rintro (a | ⟨y, hy, hh⟩)
            · exact .inl (.inl a)
            · rcases List.mem_cons.1 hy with rfl | hy
              · exact .inl (.inr hh)
              · exact .inr ⟨y, hy, hh⟩
      unfold deepS
      rw [key]
      constructor
      · rintro (a | ⟨x, hx, g1, g2⟩)
        · cases a
        · obtain ⟨w1, w2⟩ := whole_parts f hw hx
          have i1 := (one_in hx).less
          have i2 := (two_in hx).less
          exact ⟨x, hx, (ih _ _ _ _ (by omega) w1).1 g1, (ih _ _ _ _ (by omega) w2).1 g2⟩
      · rintro ⟨x, hx, g1, g2⟩
        obtain ⟨w1, w2⟩ := whole_parts f hw hx
        have i1 := (one_in hx).less
        have i2 := (two_in hx).less
        exact .inr ⟨x, hx, (ih _ _ _ _ (by omega) w1).2 g1, (ih _ _ _ _ (by omega) w2).2 g2⟩
def bestI : Option Nat → Int
  | none => -1
  | some d => (d : Int)
end Go.Proofs.Ytdhnjecbdclmaaa
end
section
namespace Go.Proofs.Ytdhnjecbdclmaaa
open Go.RowKit
set_option linter.unusedVariables false
theorem Wide.rows {F : Fence} {n : Nat} {P : Program} {row : String} {args : Array Value} {w : World} {R : Value → World → Prop} (h : Wide F) (c : Rows P row args w R) : RowsIn F n P row args w R := by
  rcases h with rfl | ⟨l, rfl⟩
  · exact fun c1 cs _ => let ⟨v, w', r, s⟩ := c c1 cs; ⟨v, w', r, stepsIn_wide.2 s⟩
  · exact fun c1 cs _ => let ⟨v, w', r, s⟩ := c c1 cs; ⟨v, w', r, stepsIn_wide.2 s⟩
section
variable {F : Fence} {n : Nat} {P : Program} {ops : Array Oper} {md : Region.Mode} {Q : Exit → Act → World → Prop}
end
end Go.Proofs.Ytdhnjecbdclmaaa
end
