/- Texts of this claim's, joined by a program: CKindP, COrdP, COrdQ, CJustP. -/
import Derived.Lib.SlicesCompact
import Derived.Test.YtbpppchkgjcahaaKCFourDM
import Derived.Test.YtbpppchkgjcahaaKCFloorRM
section
namespace Go.Proofs.Ytbpppchkgjcahaa
set_option linter.unusedVariables false
set_option linter.unusedSimpArgs false
section
variable {cl : Nat → Nat → Int} {h w : Nat} {a : Int} {SR SD : Int → Prop}
end
end Go.Proofs.Ytbpppchkgjcahaa
end
section
namespace Go.Proofs.Ytbpppchkgjcahaa
set_option linter.unusedVariables false
set_option linter.unusedSimpArgs false
section
variable {n : Nat} {R : Nat → Nat → Bool} {w P : Nat → Int} (hw : ∀ a, a < n → 0 ≤ w a) (hP : ∀ a b, a < n → b < n → R a b = true → P a + w a ≤ P b)
include hw hP
end
end Go.Proofs.Ytbpppchkgjcahaa
end
section
namespace Go.Proofs.Ytbpppchkgjcahaa
set_option linter.unusedVariables false
set_option linter.unusedSimpArgs false
set_option linter.unusedSectionVars false
end Go.Proofs.Ytbpppchkgjcahaa
end
section
namespace Go.Proofs.Ytbpppchkgjcahaa
open Go.RowKit Go.Shelf Go.Proofs.YtbpppchkgjcahaaW.PrintWords Go.Proofs.YtbpppchkgjcahaaW.PrintMore
set_option linter.unusedVariables false
set_option linter.unusedSimpArgs false
set_option linter.unusedSectionVars false
theorem runs_has (df : Nat → Bool) : ∀ (d i : Nat) (o : Option Nat), (∀ f, o = some f → f ≤ i) → ∀ u v, u ≤ v → v < i + d → (i ≤ u ∨ ∃ f, o = some f ∧ f ≤ u) → (∀ k, u ≤ k → k ≤ v → i ≤ k → df k = true) → ∃ x ∈ runs df o i d, x.1 ≤ u ∧ v < x.1 + x.2 := by
  intro d
  induction d with
  | zero =>
    intro i o ho u v huv hv hs hd
    rcases hs with hs | ⟨f, rfl, hf⟩
    · omega
    · have := ho f rfl
      exact ⟨(f, i - f), .head _, hf, by show v < f + (i - f); omega⟩
  | succ d ih =>
    intro i o ho u v huv hv hs hd
    cases o with
    | none =>
      have hi : i ≤ u := by
        rcases hs with hs | ⟨f, h, _⟩
        · exact hs
        · cases h
      by_cases h : df i = true
      · rw [show runs df none i (d + 1) = if df i = true then runs df (some i) (i + 1) d else runs df none (i + 1) d from rfl, if_pos h]
        exact ih (i + 1) (some i) (fun f e => by injection e with e; omega) u v huv (by omega) (.inr ⟨i, rfl, hi⟩) (fun k h1 h2 h3 => hd k h1 h2 (by omega))
      · rw [show runs df none i (d + 1) = if df i = true then runs df (some i) (i + 1) d else runs df none (i + 1) d from rfl, if_neg h]
        have : i ≠ u := fun e => h (hd i (by omega) (by omega) (Nat.le_refl _))
        exact ih (i + 1) none (fun f e => by cases e) u v huv (by omega) (.inl (by omega)) (fun k h1 h2 h3 => hd k h1 h2 (by omega))
    | some f =>
      have hf := ho f rfl
      by_cases h : df i = true
      · rw [show runs df (some f) i (d + 1) = if df i = true then runs df (some f) (i + 1) d else (f, i - f) :: runs df none (i + 1) d from rfl, if_pos h]
        refine ih (i + 1) (some f) (fun f' e => by injection e with e; omega) u v huv (by omega) (.inr ⟨f, rfl, ?_⟩) (fun k h1 h2 h3 => hd k h1 h2 (by omega))
        rcases hs with hs | ⟨f', e, hs⟩
        · omega
        · injection e with e; omega
      · rw [show runs df (some f) i (d + 1) = if df i = true then runs df (some f) (i + 1) d else (f, i - f) :: runs df none (i + 1) d from rfl, if_neg h]
        by_cases hvi : v < i
        · refine ⟨(f, i - f), .head _, ?_, by show v < f + (i - f); omega⟩
          rcases hs with hs | ⟨f', e, hs⟩
          · omega
          · injection e with e; subst e; exact hs
        · have : ¬ u ≤ i := fun e => h (hd i e (by omega) (Nat.le_refl _))
          obtain ⟨x, hx, r⟩ := ih (i + 1) none (fun f e => by cases e) u v huv (by omega) (.inl (by omega)) (fun k h1 h2 h3 => hd k h1 h2 (by omega))
          exact ⟨x, .tail _ hx, r⟩
theorem wallsFrom_has (cl : Nat → Nat → Int) (level : Bool) (places : Nat) {x : WallT} : ∀ d line, 1 ≤ line → line < 1 + d → x ∈ wallsRow cl level line places → x ∈ wallsFrom cl level places d := by
  intro d
  induction d with
  | zero => intro line h1 h2; omega
  | succ d ih =>
    intro line h1 h2 hx
    show x ∈ wallsFrom cl level places d ++ wallsRow cl level (1 + d) places
    by_cases e : line = 1 + d
    · subst e; exact List.mem_append_right _ hx
    · exact List.mem_append_left _ (ih line h1 (by omega) hx)
theorem wall_has (cl : Nat → Nat → Int) {h wd : Nat} (level : Bool) {line u v : Nat} (h1 : 1 ≤ line) (h2 : line < if level then h else wd) (huv : u ≤ v) (hv : v < if level then wd else h) (hd : ∀ k, u ≤ k → k ≤ v → dfL cl level line k = true) :
    ∃ x ∈ wallsL cl h wd, x.1 = level ∧ x.2.1 = line ∧ x.2.2.1 ≤ u ∧ v < x.2.2.1 + x.2.2.2 := by
  obtain ⟨y, hy, r1, r2⟩ := runs_has (dfL cl level line) (if level then wd else h) 0 none (fun f e => by cases e) u v huv (by omega) (.inl (Nat.zero_le _)) (fun k a b _ => hd k a b)
  refine ⟨(level, line, y.1, y.2), ?_, rfl, rfl, r1, r2⟩
  unfold wallsL
  cases level with
  | false =>
    refine List.mem_append_left _ (wallsFrom_has cl false h (wd - 1) line h1 (by simp at h2; omega) ?_)
    exact List.mem_map.2 ⟨y, hy, rfl⟩
  | true =>
    refine List.mem_append_right _ (wallsFrom_has cl true wd (h - 1) line h1 (by simp at h2; omega) ?_)
    exact List.mem_map.2 ⟨y, hy, rfl⟩
section
variable {cl : Nat → Nat → Int} {boxes : List Box} {h wd : Nat} (f : Flat cl boxes h wd)
include f
end
end Go.Proofs.Ytbpppchkgjcahaa
end
