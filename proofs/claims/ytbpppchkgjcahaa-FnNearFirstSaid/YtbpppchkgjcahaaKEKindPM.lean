/- Texts of this claim's, joined by a program: EKindP, EOrdP, EOrdQ, EJustP, ETouchP. -/
import Derived.Lib.SlicesCompact
import Derived.Test.YtbpppchkgjcahaaKEFourDM
import Derived.Test.YtbpppchkgjcahaaKEFloorRM
import Derived.Test.YtbpppchkgjcahaaKECodeRowM
section
namespace Go.Proofs.Ytbpppchkgjcahaa
set_option linter.unusedVariables false
set_option linter.unusedSimpArgs false
section
variable {cl : Nat → Nat → Int} {h w : Nat} {a : Int} {SR SD : Int → Prop}
end
end Go.Proofs.Ytbpppchkgjcahaa
end
section
namespace Go.Proofs.Ytbpppchkgjcahaa
set_option linter.unusedVariables false
set_option linter.unusedSimpArgs false
section
variable {n : Nat} {R : Nat → Nat → Bool} {w P : Nat → Int} (hw : ∀ a, a < n → 0 ≤ w a) (hP : ∀ a b, a < n → b < n → R a b = true → P a + w a ≤ P b)
include hw hP
end
end Go.Proofs.Ytbpppchkgjcahaa
end
section
namespace Go.Proofs.Ytbpppchkgjcahaa
set_option linter.unusedVariables false
set_option linter.unusedSimpArgs false
set_option linter.unusedSectionVars false
end Go.Proofs.Ytbpppchkgjcahaa
end
section
namespace Go.Proofs.Ytbpppchkgjcahaa
open Go.RowKit Go.Shelf Go.Proofs.YtbpppchkgjcahaaW.PrintWords Go.Proofs.YtbpppchkgjcahaaW.PrintMore
set_option linter.unusedVariables false
set_option linter.unusedSimpArgs false
set_option linter.unusedSectionVars false
theorem runs_has (df : Nat → Bool) : ∀ (d i : Nat) (o : Option Nat), (∀ f, o = some f → f ≤ i) → ∀ u v, u ≤ v → v < i + d → (i ≤ u ∨ ∃ f, o = some f ∧ f ≤ u) → (∀ k, u ≤ k → k ≤ v → i ≤ k → df k = true) → ∃ x ∈ runs df o i d, x.1 ≤ u ∧ v < x.1 + x.2 := by
  intro d
  induction d with
  | zero =>
    intro i o ho u v huv hv hs hd
    rcases hs with hs | ⟨f, rfl, hf⟩
    · omega
    · have := ho f rfl
      exact ⟨(f, i - f), .head _, hf, by show v < f + (i - f); omega⟩
  | succ d ih =>
    intro i o ho u v huv hv hs hd
    cases o with
    | none =>
      have hi : i ≤ u := by
        rcases hs with hs | ⟨f, h, _⟩
        · exact hs
        · cases h
      by_cases h : df i = true
      · rw [show runs df none i (d + 1) = if df i = true then runs df (some i) (i + 1) d else runs df none (i + 1) d from rfl, if_pos h]
        exact ih (i + 1) (some i) (fun f e => by injection e with e; omega) u v huv (by omega) (.inr ⟨i, rfl, hi⟩) (fun k h1 h2 h3 => hd k h1 h2 (by omega))
      · rw [show runs df none i (d + 1) = if df i = true then runs df (some i) (i + 1) d else runs df none (i + 1) d from rfl, if_neg h]
        have : i ≠ u := fun e => h (hd i (by omega) (by omega) (Nat.le_refl _))
        exact ih (i + 1) none (fun f e => by cases e) u v huv (by omega) (.inl (by omega)) (fun k h1 h2 h3 => hd k h1 h2 (by omega))
    | some f =>
      have hf := ho f rfl
      by_cases h : df i = true
      · rw [show runs df (some f) i (d + 1) = if df i = true then runs df (some f) (i + 1) d else (f, i - f) :: runs df none (i + 1) d from rfl, if_pos h]
        refine ih (i + 1) (some f) (fun f' e => by injection e with e; omega) u v huv (by omega) (.inr ⟨f, rfl, ?_⟩) (fun k h1 h2 h3 => hd k h1 h2 (by omega))
        rcases hs with hs | ⟨f', e, hs⟩
        · omega
        · injection e with e; omega
      · rw [show runs df (some f) i (d + 1) = if df i = true then runs df (some f) (i + 1) d else (f, i - f) :: runs df none (i + 1) d from rfl, if_neg h]
        by_cases hvi : v < i
        · refine ⟨(f, i - f), .head _, ?_, by show v < f + (i - f); omega⟩
          rcases hs with hs | ⟨f', e, hs⟩
          · omega
          · injection e with e; subst e; exact hs
        · have : ¬ u ≤ i := fun e => h (hd i e (by omega) (Nat.le_refl _))
          obtain ⟨x, hx, r⟩ := ih (i + 1) none (fun f e => by cases e) u v huv (by omega) (.inl (by omega)) (fun k h1 h2 h3 => hd k h1 h2 (by omega))
          exact ⟨x, .tail _ hx, r⟩
theorem wallsFrom_has (cl : Nat → Nat → Int) (level : Bool) (places : Nat) {x : WallT} : ∀ d line, 1 ≤ line → line < 1 + d → x ∈ wallsRow cl level line places → x ∈ wallsFrom cl level places d := by
  intro d
  induction d with
  | zero => intro line h1 h2; omega
  | succ d ih =>
    intro line h1 h2 hx
    show x ∈ wallsFrom cl level places d ++ wallsRow cl level (1 + d) places
    by_cases e : line = 1 + d
    · subst e; exact List.mem_append_right _ hx
    · exact List.mem_append_left _ (ih line h1 (by omega) hx)
theorem wall_has (cl : Nat → Nat → Int) {h wd : Nat} (level : Bool) {line u v : Nat} (h1 : 1 ≤ line) (h2 : line < if level then h else wd) (huv : u ≤ v) (hv : v < if level then wd else h) (hd : ∀ k, u ≤ k → k ≤ v → dfL cl level line k = true) :
    ∃ x ∈ wallsL cl h wd, x.1 = level ∧ x.2.1 = line ∧ x.2.2.1 ≤ u ∧ v < x.2.2.1 + x.2.2.2 := by
  obtain ⟨y, hy, r1, r2⟩ := runs_has (dfL cl level line) (if level then wd else h) 0 none (fun f e => by cases e) u v huv (by omega) (.inl (Nat.zero_le _)) (fun k a b _ => hd k a b)
  refine ⟨(level, line, y.1, y.2), ?_, rfl, rfl, r1, r2⟩
  unfold wallsL
  cases level with
  | false =>
    refine List.mem_append_left _ (wallsFrom_has cl false h (wd - 1) line h1 (by simp at h2; omega) ?_)
    exact List.mem_map.2 ⟨y, hy, rfl⟩
  | true =>
    refine List.mem_append_right _ (wallsFrom_has cl true wd (h - 1) line h1 (by simp at h2; omega) ?_)
    exact List.mem_map.2 ⟨y, hy, rfl⟩
section
variable {cl : Nat → Nat → Int} {boxes : List Box} {h wd : Nat} (f : Flat cl boxes h wd)
include f
end
end Go.Proofs.Ytbpppchkgjcahaa
end
section
namespace Go.Proofs.Ytbpppchkgjcahaa
open Go.RowKit Go.Shelf Go.Proofs.YtbpppchkgjcahaaW.PrintWords Go.Proofs.YtbpppchkgjcahaaW.PrintMore
set_option linter.unusedVariables false
set_option linter.unusedSimpArgs false
def BesideC (cl : Nat → Nat → Int) (h wd : Nat) (a b : Int) : Prop :=
  (∃ i j, i < h ∧ j + 1 < wd ∧ (cl i j = a ∧ cl i (j + 1) = b ∨ cl i j = b ∧ cl i (j + 1) = a)) ∨ (∃ i j, i + 1 < h ∧ j < wd ∧ (cl i j = a ∧ cl (i + 1) j = b ∨ cl i j = b ∧ cl (i + 1) j = a))
noncomputable def nbB (cl : Nat → Nat → Int) (h wd : Nat) (a b : Nat) : Bool := @decide (a ≠ b ∧ BesideC cl h wd (a : Int) (b : Int)) (Classical.propDecidable _)
theorem nbB_iff {cl : Nat → Nat → Int} {h wd a b : Nat} : nbB cl h wd a b = true ↔ a ≠ b ∧ BesideC cl h wd (a : Int) (b : Int) := by
  unfold nbB; exact @decide_eq_true_iff _ (Classical.propDecidable _)
theorem BesideC.symm {cl : Nat → Nat → Int} {h wd : Nat} {a b : Int} (hh : BesideC cl h wd a b) : BesideC cl h wd b a := by
  rcases hh with ⟨i, j, h1, h2, h3⟩ | ⟨i, j, h1, h2, h3⟩
  · exact .inl ⟨i, j, h1, h2, h3.symm⟩
  · exact .inr ⟨i, j, h1, h2, h3.symm⟩
def unitsW (cl : Nat → Nat → Int) (x : WallT) : List (Nat × Nat) := (List.range x.2.2.2).map fun i => ((sidesL cl x.1 x.2.1 (x.2.2.1 + i)).1.toNat, (sidesL cl x.1 x.2.1 (x.2.2.1 + i)).2.toNat)
theorem unitsW_len (cl : Nat → Nat → Int) (x : WallT) : (unitsW cl x).length = x.2.2.2 := by unfold unitsW; rw [List.length_map, List.length_range]
theorem unitsW_get (cl : Nat → Nat → Int) (x : WallT) {m : Nat} (hm : m < x.2.2.2) : (unitsW cl x).take (m + 1) = (unitsW cl x).take m ++ [((sidesL cl x.1 x.2.1 (x.2.2.1 + m)).1.toNat, (sidesL cl x.1 x.2.1 (x.2.2.1 + m)).2.toNat)] := by
  rw [List.take_succ_eq_append_getElem (by rw [unitsW_len]; exact hm)]
  congr 2
  unfold unitsW
  rw [List.getElem_map, List.getElem_range]
def unitsTo (cl : Nat → Nat → Int) (L : List WallT) (k : Nat) : List (Nat × Nat) := (L.take k).flatMap (unitsW cl)
theorem unitsTo_succ (cl : Nat → Nat → Int) (L : List WallT) {k : Nat} (hk : k < L.length) : unitsTo cl L (k + 1) = unitsTo cl L k ++ unitsW cl L[k] := by
  unfold unitsTo
  rw [List.take_succ_eq_append_getElem hk, List.flatMap_append]
  simp
theorem unitsTo_all (cl : Nat → Nat → Int) (L : List WallT) : unitsTo cl L L.length = L.flatMap (unitsW cl) := by unfold unitsTo; rw [List.take_length]
def TouchI (T : Nat → Nat → Int) (U : List (Nat × Nat)) : Prop := ∀ a b, 0 ≤ T a b ∧ T a b ≤ 2 * (U.length : Int) ∧ (0 < T a b ↔ (a, b) ∈ U ∨ (b, a) ∈ U)
theorem TouchI.nil : TouchI (fun _ _ => 0) [] := fun a b => ⟨Int.le_refl _, Int.le_refl _, by simp⟩
theorem TouchI.more {T : Nat → Nat → Int} {U : List (Nat × Nat)} (h : TouchI T U) (x y : Nat) :
    TouchI (fun i j => if i = y ∧ j = x then (if y = x ∧ x = y then T x y + 1 else T y x) + 1 else if i = x ∧ j = y then T x y + 1 else T i j) (U ++ [(x, y)]) := by
  intro a b
  have hxy := h x y
  have hyx := h y x
  have hab := h a b
  have hl : (((U ++ [(x, y)]).length : Nat) : Int) = (U.length : Int) + 1 := by rw [List.length_append]; rfl
  rw [hl]
  have hm : ((a, b) ∈ U ++ [(x, y)] ∨ (b, a) ∈ U ++ [(x, y)]) ↔ ((a, b) ∈ U ∨ (b, a) ∈ U) ∨ (a = x ∧ b = y) ∨ (b = x ∧ a = y) := by
    simp only [List.mem_append, List.mem_singleton, Prod.mk.injEq]
    constructor
    · rintro ((h | h) | (h | h))
      · exact .inl (.inl h)
      · exact .inr (.inl h)
      · exact .inl (.inr h)
      · exact .inr (.inr h)
    · rintro ((h | h) | (h | h))
      · exact .inl (.inl h)
      · exact .inr (.inl h)
      · exact .inl (.inr h)
      · exact .inr (.inr h)
  rw [hm]
  dsimp only
  by_cases c1 : a = y ∧ b = x
  · rw [if_pos c1]
    refine ⟨?_, ?_, ?_⟩
    · split <;> omega
    · split <;> omega
    · refine ⟨fun _ => .inr (.inr ⟨c1.2, c1.1⟩), fun _ => ?_⟩
      split <;> omega
  · rw [if_neg c1]
    by_cases c2 : a = x ∧ b = y
    · rw [if_pos c2]
      exact ⟨by omega, by omega, fun _ => .inr (.inl c2), fun _ => by omega⟩
    · rw [if_neg c2]
      refine ⟨by omega, by omega, fun hh => .inl (hab.2.2.1 hh), ?_⟩
      rintro (hh | hh | hh)
      · exact hab.2.2.2 hh
      · exact absurd hh c2
      · exact absurd ⟨hh.2, hh.1⟩ c1
theorem touch_near {cl : Nat → Nat → Int} {h wd n : Nat} (hnum : ∀ i j, i < h → j < wd → ∃ q, q < n ∧ cl i j = (q : Int)) {T : Nat → Nat → Int} (hT : TouchI T ((wallsL cl h wd).flatMap (unitsW cl))) (a b : Nat) : decide (0 < T a b) = nbB cl h wd a b := by
  have mem : ∀ a b : Nat, (a, b) ∈ (wallsL cl h wd).flatMap (unitsW cl) ↔ a ≠ b ∧ ((∃ i j, i < h ∧ j + 1 < wd ∧ cl i j = (a : Int) ∧ cl i (j + 1) = (b : Int)) ∨ (∃ i j, i + 1 < h ∧ j < wd ∧ cl i j = (a : Int) ∧ cl (i + 1) j = (b : Int))) := by
    intro a b
    rw [List.mem_flatMap]
    constructor
    · rintro ⟨⟨lv, line, fr, long⟩, hx, hm⟩
      obtain ⟨k1, k2, k3, k4⟩ := wallsL_in hx
      unfold unitsW at hm
      obtain ⟨m, hm1, hm2⟩ := List.mem_map.1 hm
      have hm1 := List.mem_range.1 hm1
      dsimp only at hm1 hm2 k1 k2 k3 k4
      have hd := k4 (fr + m) (by omega) (by omega)
      unfold dfL at hd
      rw [bne_iff_ne] at hd
      cases lv with
      | true =>
        simp only [if_true] at k1 k3
        unfold sidesL at hd hm2
        simp only [if_true] at hd hm2
        obtain ⟨q1, hq1, e1⟩ := hnum (line - 1) (fr + m) (by omega) (by omega)
        obtain ⟨q2, hq2, e2⟩ := hnum line (fr + m) (by omega) (by omega)
        rw [e1, e2] at hd hm2
        injection hm2 with e3 e4
        rw [Int.toNat_natCast] at e3 e4
        subst e3 e4
        refine ⟨fun e => hd (by rw [e]), .inr ⟨line - 1, fr + m, by omega, by omega, e1, ?_⟩⟩
        rw [show line - 1 + 1 = line by omega]; exact e2
      | false =>
        simp only [Bool.false_eq_true, if_false] at k1 k3
        unfold sidesL at hd hm2
        simp only [Bool.false_eq_true, if_false] at hd hm2
        obtain ⟨q1, hq1, e1⟩ := hnum (fr + m) (line - 1) (by omega) (by omega)
        obtain ⟨q2, hq2, e2⟩ := hnum (fr + m) line (by omega) (by omega)
        rw [e1, e2] at hd hm2
        injection hm2 with e3 e4
        rw [Int.toNat_natCast] at e3 e4
        subst e3 e4
        refine ⟨fun e => hd (by rw [e]), .inl ⟨fr + m, line - 1, by omega, by omega, e1, ?_⟩⟩
        rw [show line - 1 + 1 = line by omega]; exact e2
    · rintro ⟨hne, ⟨i, j, h1, h2, e1, e2⟩ | ⟨i, j, h1, h2, e1, e2⟩⟩
      · obtain ⟨x, hx, x1, x2, x3, x4⟩ := wall_has cl (h := h) (wd := wd) false (line := j + 1) (u := i) (v := i) (by omega) (by simp; omega) (Nat.le_refl _) (by simpa using h1) (fun k k1 k2 => by
          obtain rfl : k = i := by omega
          unfold dfL sidesL
          simp only [Bool.false_eq_true, if_false]
          rw [bne_iff_ne, show j + 1 - 1 = j by omega, e1, e2]
          exact fun e => hne (Int.ofNat.inj e))
        refine ⟨x, hx, ?_⟩
        unfold unitsW
        refine List.mem_map.2 ⟨i - x.2.2.1, List.mem_range.2 (by omega), ?_⟩
        rw [x1, x2, show x.2.2.1 + (i - x.2.2.1) = i by omega]
        unfold sidesL
        simp only [Bool.false_eq_true, if_false]
        rw [show j + 1 - 1 = j by omega, e1, e2]; rfl
      · obtain ⟨x, hx, x1, x2, x3, x4⟩ := wall_has cl (h := h) (wd := wd) true (line := i + 1) (u := j) (v := j) (by omega) (by simp; omega) (Nat.le_refl _) (by simpa using h2) (fun k k1 k2 => by
          obtain rfl : k = j := by omega
          unfold dfL sidesL
          simp only [if_true]
          rw [bne_iff_ne, show i + 1 - 1 = i by omega, e1, e2]
          exact fun e => hne (Int.ofNat.inj e))
        refine ⟨x, hx, ?_⟩
        unfold unitsW
        refine List.mem_map.2 ⟨j - x.2.2.1, List.mem_range.2 (by omega), ?_⟩
        rw [x1, x2, show x.2.2.1 + (j - x.2.2.1) = j by omega]
        unfold sidesL
        simp only [if_true]
        rw [show i + 1 - 1 = i by omega, e1, e2]; rfl
  rw [Bool.eq_iff_iff, decide_eq_true_iff, nbB_iff, (hT a b).2.2, mem, mem]
  unfold BesideC
  constructor
  · rintro (⟨hne, hh⟩ | ⟨hne, hh⟩)
    · refine ⟨hne, hh.imp ?_ ?_⟩
      · rintro ⟨i, j, h1, h2, h3, h4⟩; exact ⟨i, j, h1, h2, .inl ⟨h3, h4⟩⟩
      · rintro ⟨i, j, h1, h2, h3, h4⟩; exact ⟨i, j, h1, h2, .inl ⟨h3, h4⟩⟩
    · refine ⟨hne.symm, hh.imp ?_ ?_⟩
      · rintro ⟨i, j, h1, h2, h3, h4⟩; exact ⟨i, j, h1, h2, .inr ⟨h3, h4⟩⟩
      · rintro ⟨i, j, h1, h2, h3, h4⟩; exact ⟨i, j, h1, h2, .inr ⟨h3, h4⟩⟩
  · rintro ⟨hne, ⟨i, j, h1, h2, h3 | h3⟩ | ⟨i, j, h1, h2, h3 | h3⟩⟩
    · exact .inl ⟨hne, .inl ⟨i, j, h1, h2, h3⟩⟩
    · exact .inr ⟨hne.symm, .inl ⟨i, j, h1, h2, h3⟩⟩
    · exact .inl ⟨hne, .inr ⟨i, j, h1, h2, h3⟩⟩
    · exact .inr ⟨hne.symm, .inr ⟨i, j, h1, h2, h3⟩⟩
end Go.Proofs.Ytbpppchkgjcahaa
end
