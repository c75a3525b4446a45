/- Plain: the list of all walls, and how it grows place by place. -/
import Derived.Test.YtbpppchkgjcahaaKFFourDM
namespace Go.Proofs.Ytbpppchkgjcahaa
open Go.RowKit Go.Shelf Go.Proofs.YtbpppchkgjcahaaW.PrintWords Go.Proofs.YtbpppchkgjcahaaW.PrintMore
set_option linter.unusedVariables false
set_option linter.unusedSimpArgs false
def bump {α : Type} (f : α → α) : List α → List α
  | [] => []
  | [x] => [f x]
  | x :: y :: l => x :: bump f (y :: l)
theorem bump_cons {α : Type} (f : α → α) (x : α) {l : List α} (h : l ≠ []) : bump f (x :: l) = x :: bump f l := by
  cases l with
  | nil => exact absurd rfl h
  | cons y l => rfl
theorem bump_append {α : Type} (f : α → α) {l : List α} (h : l ≠ []) : ∀ a, bump f (a ++ l) = a ++ bump f l := by
  intro a
  induction a with
  | nil => rfl
  | cons x a ih => rw [List.cons_append, bump_cons f x (by simp [h]), ih]; rfl
theorem bump_map {α β : Type} (f : α → α) (g : β → β) (e : α → β) (hg : ∀ x, e (f x) = g (e x)) : ∀ l, (bump f l).map e = bump g (l.map e)
  | [] => rfl
  | [x] => by show [e (f x)] = [g (e x)]; rw [hg]
  | x :: y :: l => by
    rw [bump_cons f x (by simp), List.map_cons, bump_map f g e hg (y :: l)]
    exact (bump_cons g (e x) (l := (y :: l).map e) (by simp)).symm
theorem bump_last {α : Type} (f : α → α) (a : List α) (x : α) : bump f (a ++ [x]) = a ++ [f x] := bump_append f (by simp) a
theorem bump_len {α : Type} (f : α → α) : ∀ l : List α, (bump f l).length = l.length
  | [] => rfl
  | [x] => rfl
  | x :: y :: l => by rw [bump_cons f x (by simp), List.length_cons, bump_len f (y :: l)]; rfl
def longer (x : Nat × Nat) : Nat × Nat := (x.1, x.2 + 1)
theorem runs_open (df : Nat → Bool) (d i : Nat) (h : lastB df false i d = true) : runs df none i d ≠ [] := by
  intro e
  have h1 := runs_len df d i none
  rw [e] at h1
  have h2 := starts_turns df d i false
  rw [h] at h2
  have h3 : (0 : Nat) = starts df false i d + 0 := h1
  have h4 : 2 * starts df false i d + 0 = turns_ df false i d + 1 := h2
  omega
theorem runs_more (df : Nat → Bool) : ∀ (d i : Nat) (o : Option Nat), (∀ f, o = some f → f ≤ i) → runs df o i (d + 1) = if df (i + d) = true then (if lastB df o.isSome i d = true then bump longer (runs df o i d) else runs df o i d ++ [(i + d, 1)]) else runs df o i d := by
  intro d
  induction d with
  | zero =>
    intro i o ho
    cases o with
    | none =>
      unfold runs
      by_cases h : df i = true
      · rw [if_pos h, if_pos (show df (i + 0) = true from h), if_neg (by show ¬ (lastB df false i 0 = true); unfold lastB; simp)]
        show [(i, i + 1 - i)] = [] ++ [(i, 1)]
        rw [show i + 1 - i = 1 by omega]; rfl
      · rw [if_neg h, if_neg (show ¬ df (i + 0) = true from h)]; rfl
    | some f =>
      have := ho f rfl
      unfold runs
      by_cases h : df i = true
      · rw [if_pos h, if_pos (show df (i + 0) = true from h), if_pos (by show lastB df true i 0 = true; rfl)]
        show [(f, i + 1 - f)] = [(f, i - f + 1)]
        rw [show i + 1 - f = i - f + 1 by omega]
      · rw [if_neg h, if_neg (show ¬ df (i + 0) = true from h)]
        rfl
  | succ d ih =>
    intro i o ho
    have hl := last_step df o.isSome i d
    rw [← hl, show i + (d + 1) = i + 1 + d by omega]
    cases o with
    | none =>
      rw [show runs df none i (d + 1 + 1) = if df i = true then runs df (some i) (i + 1) (d + 1) else runs df none (i + 1) (d + 1) from rfl]
      rw [show runs df none i (d + 1) = if df i = true then runs df (some i) (i + 1) d else runs df none (i + 1) d from rfl]
      by_cases h : df i = true
      · rw [if_pos h, if_pos h, ih (i + 1) (some i) (fun f e => by injection e with e; omega), h]
        rfl
      · have hf : df i = false := by simpa using h
        rw [if_neg h, if_neg h, ih (i + 1) none (fun f e => by cases e), hf]
        rfl
    | some f =>
      have := ho f rfl
      rw [show runs df (some f) i (d + 1 + 1) = if df i = true then runs df (some f) (i + 1) (d + 1) else (f, i - f) :: runs df none (i + 1) (d + 1) from rfl]
      rw [show runs df (some f) i (d + 1) = if df i = true then runs df (some f) (i + 1) d else (f, i - f) :: runs df none (i + 1) d from rfl]
      by_cases h : df i = true
      · rw [if_pos h, if_pos h, ih (i + 1) (some f) (fun f' e => by injection e with e; omega), h]
        rfl
      · have hf : df i = false := by simpa using h
        rw [if_neg h, if_neg h, ih (i + 1) none (fun f e => by cases e), hf]
        show _ :: (if _ then (if lastB df false (i + 1) d = true then _ else _) else _) = if _ then (if lastB df false (i + 1) d = true then _ else _) else _
        by_cases h1 : df (i + 1 + d) = true
        · rw [if_pos h1, if_pos h1]
          by_cases h2 : lastB df false (i + 1) d = true
          · rw [if_pos h2, if_pos h2, bump_cons longer _ (runs_open df d (i + 1) h2)]
          · rw [if_neg h2, if_neg h2]; rfl
        · rw [if_neg h1, if_neg h1]
def openB (df : Nat → Bool) (n : Nat) : Bool := if n = 0 then false else df (n - 1)
theorem runs_snoc (df : Nat → Bool) (n : Nat) : runs df none 0 (n + 1) = if df n = true then (if openB df n = true then bump longer (runs df none 0 n) else runs df none 0 n ++ [(n, 1)]) else runs df none 0 n := by
  have := runs_more df n 0 none (fun f e => by cases e)
  rw [Nat.zero_add] at this
  rw [this]
  have e : lastB df false 0 n = openB df n := by unfold lastB openB; rw [Nat.zero_add]
  show (if df n = true then (if lastB df false 0 n = true then _ else _) else _) = _
  rw [e]
theorem runs_ne (df : Nat → Bool) (n : Nat) (h : openB df n = true) : runs df none 0 n ≠ [] := runs_open df n 0 (by unfold lastB; rw [Nat.zero_add]; exact h)
abbrev WallT := Bool × Nat × Nat × Nat
def dfL (cl : Nat → Nat → Int) (level : Bool) (line at_ : Nat) : Bool := (sidesL cl level line at_).1 != (sidesL cl level line at_).2
def wallsRow (cl : Nat → Nat → Int) (level : Bool) (line n : Nat) : List WallT := (runs (dfL cl level line) none 0 n).map fun x => (level, line, x.1, x.2)
def wallsFrom (cl : Nat → Nat → Int) (level : Bool) (places : Nat) : Nat → List WallT
  | 0 => []
  | d + 1 => wallsFrom cl level places d ++ wallsRow cl level (1 + d) places
def wallsL (cl : Nat → Nat → Int) (h wd : Nat) : List WallT := wallsFrom cl false h (wd - 1) ++ wallsFrom cl true wd (h - 1)
def longerW (x : WallT) : WallT := (x.1, x.2.1, x.2.2.1, x.2.2.2 + 1)
theorem wallsRow_snoc (cl : Nat → Nat → Int) (level : Bool) (line n : Nat) (A : List WallT) : A ++ wallsRow cl level line (n + 1) = if dfL cl level line n = true then (if openB (dfL cl level line) n = true then bump longerW (A ++ wallsRow cl level line n) else (A ++ wallsRow cl level line n) ++ [(level, line, n, 1)]) else A ++ wallsRow cl level line n := by
  unfold wallsRow
  rw [runs_snoc]
  by_cases h1 : dfL cl level line n = true
  · rw [if_pos h1, if_pos h1]
    by_cases h2 : openB (dfL cl level line) n = true
    · rw [if_pos h2, if_pos h2, bump_map longer longerW _ (fun _ => rfl), bump_append longerW (by
        intro e
        exact runs_ne _ n h2 (List.map_eq_nil_iff.1 e))]
    · rw [if_neg h2, if_neg h2, List.map_append, List.append_assoc]; rfl
  · rw [if_neg h1, if_neg h1]
theorem wallsRow_len (cl : Nat → Nat → Int) (level : Bool) (line : Nat) : ∀ n, (wallsRow cl level line n).length ≤ n := by
  intro n
  induction n with
  | zero => exact Nat.le_refl _
  | succ n ih =>
    have := wallsRow_snoc cl level line n []
    rw [List.nil_append, List.nil_append] at this
    rw [this]
    split
    · split
      · rw [bump_len]; omega
      · rw [List.length_append]; show _ + 1 ≤ _; omega
    · omega
theorem wallsFrom_len (cl : Nat → Nat → Int) (level : Bool) (places : Nat) : ∀ d, (wallsFrom cl level places d).length ≤ d * places := by
  intro d
  induction d with
  | zero => exact Nat.zero_le _
  | succ d ih =>
    unfold wallsFrom
    rw [List.length_append, Nat.succ_mul]
    have := wallsRow_len cl level (1 + d) places
    omega
theorem runs_in (df : Nat → Bool) : ∀ (d i : Nat) (o : Option Nat), (∀ f, o = some f → f < i) → ∀ x ∈ runs df o i d, 1 ≤ x.2 ∧ x.1 + x.2 ≤ i + d ∧ (i ≤ x.1 ∨ o = some x.1) ∧ (∀ k, i ≤ k → x.1 ≤ k → k < x.1 + x.2 → df k = true) := by
  intro d
  induction d with
  | zero =>
    intro i o ho x hx
    cases o with
    | none => cases hx
    | some f =>
      have := ho f rfl
      obtain rfl := List.mem_singleton.1 hx
      refine ⟨by show 1 ≤ i - f; omega, by show f + (i - f) ≤ i + 0; omega, .inr rfl, fun k k0 k1 k2 => ?_⟩
      have : k < f + (i - f) := k2
      omega
  | succ d ih =>
    intro i o ho x hx
    cases o with
    | none =>
      unfold runs at hx
      by_cases h : df i = true
      · rw [if_pos h] at hx
        obtain ⟨a, b, c, e⟩ := ih (i + 1) (some i) (fun f e => by injection e with e; omega) x hx
        have c' : i ≤ x.1 := by
          rcases c with c | c
          · omega
          · injection c with c; omega
        refine ⟨a, by omega, .inl c', fun k k0 k1 k2 => ?_⟩
        by_cases hk : k = i
        · subst hk; exact h
        · exact e k (by omega) k1 k2
      · rw [if_neg h] at hx
        obtain ⟨a, b, c, e⟩ := ih (i + 1) none (fun f e => by cases e) x hx
        have c' : i + 1 ≤ x.1 := by
          rcases c with c | c
          · exact c
          · cases c
        exact ⟨a, by omega, .inl (by omega), fun k k0 k1 k2 => e k (by omega) k1 k2⟩
    | some f =>
      have hf := ho f rfl
      unfold runs at hx
      by_cases h : df i = true
      · rw [if_pos h] at hx
        obtain ⟨a, b, c, e⟩ := ih (i + 1) (some f) (fun f' e => by injection e with e; omega) x hx
        refine ⟨a, by omega, ?_, fun k k0 k1 k2 => ?_⟩
        · rcases c with c | c
          · exact .inl (by omega)
          · exact .inr c
        · by_cases hk : k = i
          · subst hk; exact h
          · exact e k (by omega) k1 k2
      · rw [if_neg h] at hx
        rcases List.mem_cons.1 hx with rfl | hx
        · refine ⟨by show 1 ≤ i - f; omega, by show f + (i - f) ≤ _; omega, .inr rfl, fun k k0 k1 k2 => ?_⟩
          have : k < f + (i - f) := k2
          omega
        · obtain ⟨a, b, c, e⟩ := ih (i + 1) none (fun f e => by cases e) x hx
          have c' : i + 1 ≤ x.1 := by
            rcases c with c | c
            · exact c
            · cases c
          exact ⟨a, by omega, .inl (by omega), fun k k0 k1 k2 => e k (by omega) k1 k2⟩
theorem wallsRow_in {cl : Nat → Nat → Int} {level : Bool} {line n : Nat} {x : WallT} (h : x ∈ wallsRow cl level line n) : x.1 = level ∧ x.2.1 = line ∧ 1 ≤ x.2.2.2 ∧ x.2.2.1 + x.2.2.2 ≤ n ∧ ∀ k, x.2.2.1 ≤ k → k < x.2.2.1 + x.2.2.2 → dfL cl level line k = true := by
  obtain ⟨y, hy, rfl⟩ := List.mem_map.1 h
  obtain ⟨a, b, c, e⟩ := runs_in _ n 0 none (fun f e => by cases e) y hy
  exact ⟨rfl, rfl, a, by rw [Nat.zero_add] at b; exact b, fun k k1 k2 => e k (Nat.zero_le _) k1 k2⟩
theorem wallsFrom_in {cl : Nat → Nat → Int} {level : Bool} {places : Nat} : ∀ {d : Nat} {x : WallT}, x ∈ wallsFrom cl level places d → x.1 = level ∧ (1 ≤ x.2.1 ∧ x.2.1 < 1 + d) ∧ 1 ≤ x.2.2.2 ∧ x.2.2.1 + x.2.2.2 ≤ places ∧ ∀ k, x.2.2.1 ≤ k → k < x.2.2.1 + x.2.2.2 → dfL cl level x.2.1 k = true := by
  intro d
  induction d with
  | zero => intro x h; cases h
  | succ d ih =>
    intro x h
    unfold wallsFrom at h
    rcases List.mem_append.1 h with h | h
    · obtain ⟨a, b, c, e⟩ := ih h
      exact ⟨a, ⟨b.1, by omega⟩, c, e⟩
    · obtain ⟨a, b, c, e, g⟩ := wallsRow_in h
      exact ⟨a, ⟨by omega, by omega⟩, c, e, by rw [b]; exact g⟩
theorem wallsL_in {cl : Nat → Nat → Int} {h wd : Nat} {x : WallT} (hx : x ∈ wallsL cl h wd) : (1 ≤ x.2.1 ∧ x.2.1 < if x.1 then h else wd) ∧ 1 ≤ x.2.2.2 ∧ (x.2.2.1 + x.2.2.2 ≤ if x.1 then wd else h) ∧ ∀ k, x.2.2.1 ≤ k → k < x.2.2.1 + x.2.2.2 → dfL cl x.1 x.2.1 k = true := by
  unfold wallsL at hx
  rcases List.mem_append.1 hx with hx | hx
  · obtain ⟨a, b, c, e, g⟩ := wallsFrom_in hx
    rw [a]
    exact ⟨⟨b.1, by show x.2.1 < wd; omega⟩, c, e, g⟩
  · obtain ⟨a, b, c, e, g⟩ := wallsFrom_in hx
    rw [a]
    exact ⟨⟨b.1, by show x.2.1 < h; omega⟩, c, e, g⟩
theorem wallsL_len (cl : Nat → Nat → Int) {h wd : Nat} (hh : h ≤ 6) (hw : wd ≤ 6) : (wallsL cl h wd).length ≤ 72 := by
  unfold wallsL
  rw [List.length_append]
  have h1 := wallsFrom_len cl false h (wd - 1)
  have h2 := wallsFrom_len cl true wd (h - 1)
  have h3 : (wd - 1) * h ≤ 6 * 6 := Nat.mul_le_mul (by omega) hh
  have h4 : (h - 1) * wd ≤ 6 * 6 := Nat.mul_le_mul (by omega) hw
  omega
theorem wallsFrom_count (cl : Nat → Nat → Int) (level : Bool) (places : Nat) : ∀ d, (wallsFrom cl level places d).length = sumTo (fun x => (runs (dfL cl level (1 + x)) none 0 places).length) d := by
  intro d
  induction d with
  | zero => rfl
  | succ d ih =>
    unfold wallsFrom
    rw [List.length_append, ih]
    unfold wallsRow
    rw [List.length_map]; rfl
theorem wallsFrom_lvl (cl : Nat → Nat → Int) (level b : Bool) (places d : Nat) : ((wallsFrom cl level places d).filter fun x => x.1 == b) = if level = b then wallsFrom cl level places d else [] := by
  split
  · rename_i e
    subst e
    exact List.filter_eq_self.2 fun x hx => by rw [(wallsFrom_in hx).1]; simp
  · rename_i e
    exact List.filter_eq_nil_iff.2 fun x hx => by rw [(wallsFrom_in hx).1]; simpa using e
theorem walls_up (cl : Nat → Nat → Int) (h wd : Nat) : ((wallsL cl h wd).filter fun x => x.1 == false).length = upN cl h wd := by
  unfold wallsL
  rw [List.filter_append, wallsFrom_lvl, wallsFrom_lvl, if_pos rfl, if_neg (by decide), List.append_nil, wallsFrom_count]
  rfl
theorem walls_lv (cl : Nat → Nat → Int) (h wd : Nat) : ((wallsL cl h wd).filter fun x => x.1 == true).length = lvN cl h wd := by
  unfold wallsL
  rw [List.filter_append, wallsFrom_lvl, wallsFrom_lvl, if_neg (by decide), if_pos rfl, List.nil_append, wallsFrom_count]
  rfl
def endW (h wd : Nat) (x : WallT) : Nat := (if x.2.2.1 = 0 then 1 else 0) + (if x.2.2.1 + x.2.2.2 = (if x.1 then wd else h) then 1 else 0)
theorem wallsRow_ends (cl : Nat → Nat → Int) (h wd : Nat) (level : Bool) (line : Nat) : ((wallsRow cl level line (if level then wd else h)).map (endW h wd)).sum = endsRun (if level then wd else h) (runs (dfL cl level line) none 0 (if level then wd else h)) := by
  unfold wallsRow endsRun
  rw [List.map_map]; rfl
theorem wallsFrom_ends (cl : Nat → Nat → Int) (h wd : Nat) (level : Bool) : ∀ d, ((wallsFrom cl level (if level then wd else h) d).map (endW h wd)).sum = sumTo (fun x => endsRun (if level then wd else h) (runs (dfL cl level (1 + x)) none 0 (if level then wd else h))) d := by
  intro d
  induction d with
  | zero => rfl
  | succ d ih =>
    rw [show wallsFrom cl level (if level then wd else h) (d + 1) = wallsFrom cl level (if level then wd else h) d ++ wallsRow cl level (1 + d) (if level then wd else h) from rfl]
    rw [List.map_append, List.sum_append, ih, wallsRow_ends]; rfl
theorem walls_ends (cl : Nat → Nat → Int) (h wd : Nat) : ((wallsL cl h wd).map (endW h wd)).sum = endN cl h wd := by
  unfold wallsL
  rw [List.map_append, List.sum_append]
  have h1 := wallsFrom_ends cl h wd false (wd - 1)
  have h2 := wallsFrom_ends cl h wd true (h - 1)
  simp only [if_true, Bool.false_eq_true, if_false] at h1 h2
  rw [h1, h2]; rfl
end Go.Proofs.Ytbpppchkgjcahaa
