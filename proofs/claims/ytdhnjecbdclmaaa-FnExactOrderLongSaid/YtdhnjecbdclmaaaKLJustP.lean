/- Plain: who stands beside whom at walls; both relations grow. -/
import Derived.Test.YtdhnjecbdclmaaaKLFourDM
import Derived.Test.YtdhnjecbdclmaaaKLSpecTextM
namespace Go.Proofs.Ytdhnjecbdclmaaa
open Go.RowKit Go.Shelf Go.Proofs.YtdhnjecbdclmaaaW.PrintWords Go.Proofs.YtdhnjecbdclmaaaW.PrintMore
set_option linter.unusedVariables false
set_option linter.unusedSimpArgs false
set_option linter.unusedSectionVars false
def sideA (cl : Nat → Nat → Int) (x : WallT) : List Int := (List.range x.2.2.2).map fun i => (sidesL cl x.1 x.2.1 (x.2.2.1 + i)).1
def sideB (cl : Nat → Nat → Int) (x : WallT) : List Int := (List.range x.2.2.2).map fun i => (sidesL cl x.1 x.2.1 (x.2.2.1 + i)).2
def addR (R : Nat → Nat → Bool) (xs ys : List Int) : Nat → Nat → Bool := fun i j => R i j || (xs.contains (i : Int) && ys.contains (j : Int))
theorem addR_nil (R : Nat → Nat → Bool) (ys : List Int) : addR R [] ys = R := by
  funext i j; simp [addR]
theorem addR_none (R : Nat → Nat → Bool) (xs : List Int) : addR R xs [] = R := by
  funext i j; simp [addR]
theorem addR_set (R : Nat → Nat → Bool) {x y : Int} (hx : 0 ≤ x) (hy : 0 ≤ y) (ys : List Int) : (fun i j => if i = x.toNat ∧ j = y.toNat then true else addR R [x] ys i j) = addR R [x] (ys ++ [y]) := by
  funext i j
  unfold addR
  have e1 : ([x] : List Int).contains (i : Int) = decide ((i : Int) = x) := by simp
  have e2 : (ys ++ [y]).contains (j : Int) = (ys.contains (j : Int) || decide ((j : Int) = y)) := by
    rw [Bool.eq_iff_iff]
    simp
  rw [e1, e2]
  by_cases h1 : (i : Int) = x
  · by_cases h2 : (j : Int) = y
    · rw [if_pos (by omega)]; simp [h1, h2]
    · rw [if_neg (by omega)]; simp [h2]
  · rw [if_neg (by omega)]; simp [h1]
theorem addR_more (R : Nat → Nat → Bool) (xs : List Int) (x : Int) (ys : List Int) : addR (addR R xs ys) [x] ys = addR R (xs ++ [x]) ys := by
  funext i j
  unfold addR
  have e2 : (xs ++ [x]).contains (i : Int) = (xs.contains (i : Int) || ([x] : List Int).contains (i : Int)) := by
    rw [Bool.eq_iff_iff]
    simp
  rw [e2]
  cases R i j <;> cases xs.contains (i : Int) <;> cases ([x] : List Int).contains (i : Int) <;> cases ys.contains (j : Int) <;> rfl
theorem addR_mem {R : Nat → Nat → Bool} {xs ys xs' ys' : List Int} (h1 : ∀ x, x ∈ xs ↔ x ∈ xs') (h2 : ∀ x, x ∈ ys ↔ x ∈ ys') : addR R xs ys = addR R xs' ys' := by
  funext i j
  unfold addR
  rw [show xs.contains (i : Int) = xs'.contains (i : Int) by rw [Bool.eq_iff_iff]; simp [h1], show ys.contains (j : Int) = ys'.contains (j : Int) by rw [Bool.eq_iff_iff]; simp [h2]]
theorem putL_mem (x : Int) : ∀ (xs acc : List Int), x ∈ xs.foldl putL acc ↔ x ∈ acc ∨ x ∈ xs := by
  intro xs
  induction xs with
  | nil => intro acc; simp
  | cons y xs ih =>
    intro acc
    rw [List.foldl_cons, ih]
    unfold putL
    split
    · rename_i h
      have : y ∈ acc := List.mem_of_getLast? h
      rw [List.mem_cons]
      constructor
      · rintro (a | a)
        · exact .inl a
        · exact .inr (.inr a)
      · rintro (a | a | a)
        · exact .inl a
        · subst a; exact .inl this
        · exact .inr a
    · rw [List.mem_append, List.mem_singleton, List.mem_cons, or_assoc]
def justB (cl : Nat → Nat → Int) (level : Bool) : List WallT → Nat → Nat → Bool
  | [] => fun _ _ => false
  | x :: l => if x.1 = level then addR (justB cl level l) (sideA cl x) (sideB cl x) else justB cl level l
theorem justB_iff (cl : Nat → Nat → Int) (level : Bool) (a b : Nat) : ∀ l, justB cl level l a b = true ↔ ∃ x ∈ l, x.1 = level ∧ (a : Int) ∈ sideA cl x ∧ (b : Int) ∈ sideB cl x := by
  intro l
  induction l with
  | nil => simp [justB]
  | cons x l ih =>
    unfold justB
    by_cases e : x.1 = level
    · rw [if_pos e]
      unfold addR
      rw [Bool.or_eq_true, ih, Bool.and_eq_true, List.contains_iff_mem, List.contains_iff_mem]
      constructor
      · rintro (⟨y, h1, h2⟩ | h)
        · exact ⟨y, .tail _ h1, h2⟩
        · exact ⟨x, .head _, e, h⟩
      · rintro ⟨y, h1, h2, h3⟩
        rcases List.mem_cons.1 h1 with rfl | h1
        · exact .inr h3
        · exact .inl ⟨y, h1, h2, h3⟩
    · rw [if_neg e, ih]
      constructor
      · rintro ⟨y, h1, h2⟩; exact ⟨y, .tail _ h1, h2⟩
      · rintro ⟨y, h1, h2⟩
        rcases List.mem_cons.1 h1 with rfl | h1
        · exact absurd h2.1 e
        · exact ⟨y, h1, h2⟩
theorem justB_snoc (cl : Nat → Nat → Int) (level : Bool) (l : List WallT) (x : WallT) : justB cl level (l ++ [x]) = if x.1 = level then addR (justB cl level l) (sideA cl x) (sideB cl x) else justB cl level l := by
  funext a b
  rw [Bool.eq_iff_iff, justB_iff]
  by_cases e : x.1 = level
  · rw [if_pos e]
    unfold addR
    rw [Bool.or_eq_true, justB_iff, Bool.and_eq_true, List.contains_iff_mem, List.contains_iff_mem]
    constructor
    · rintro ⟨y, h1, h2⟩
      rcases List.mem_append.1 h1 with h1 | h1
      · exact .inl ⟨y, h1, h2⟩
      · obtain rfl := List.mem_singleton.1 h1; exact .inr h2.2
    · rintro (⟨y, h1, h2⟩ | h)
      · exact ⟨y, List.mem_append_left _ h1, h2⟩
      · exact ⟨x, List.mem_append_right _ (.head _), e, h⟩
  · rw [if_neg e, justB_iff]
    constructor
    · rintro ⟨y, h1, h2⟩
      rcases List.mem_append.1 h1 with h1 | h1
      · exact ⟨y, h1, h2⟩
      · obtain rfl := List.mem_singleton.1 h1; exact absurd h2.1 e
    · rintro ⟨y, h1, h2⟩
      exact ⟨y, List.mem_append_left _ h1, h2⟩
theorem runs_has (df : Nat → Bool) : ∀ (d i : Nat) (o : Option Nat), (∀ f, o = some f → f ≤ i) → ∀ u v, u ≤ v → v < i + d → (i ≤ u ∨ ∃ f, o = some f ∧ f ≤ u) → (∀ k, u ≤ k → k ≤ v → i ≤ k → df k = true) → ∃ x ∈ runs df o i d, x.1 ≤ u ∧ v < x.1 + x.2 := by
  intro d
  induction d with
  | zero =>
    intro i o ho u v huv hv hs hd
    rcases hs with hs | ⟨f, rfl, hf⟩
    · omega
    · have := ho f rfl
      exact ⟨(f, i - f), .head _, hf, by show v < f + (i - f); omega⟩
  | succ d ih =>
    intro i o ho u v huv hv hs hd
    cases o with
    | none =>
      have hi : i ≤ u := by
        rcases hs with hs | ⟨f, h, _⟩
        · exact hs
        · cases h
      by_cases h : df i = true
      · rw [show runs df none i (d + 1) = if df i = true then runs df (some i) (i + 1) d else runs df none (i + 1) d from rfl, if_pos h]
        exact ih (i + 1) (some i) (fun f e => by injection e with e; omega) u v huv (by omega) (.inr ⟨i, rfl, hi⟩) (fun k h1 h2 h3 => hd k h1 h2 (by omega))
      · rw [show runs df none i (d + 1) = if df i = true then runs df (some i) (i + 1) d else runs df none (i + 1) d from rfl, if_neg h]
        have : i ≠ u := fun e => h (hd i (by omega) (by omega) (Nat.le_refl _))
        exact ih (i + 1) none (fun f e => by cases e) u v huv (by omega) (.inl (by omega)) (fun k h1 h2 h3 => hd k h1 h2 (by omega))
    | some f =>
      have hf := ho f rfl
      by_cases h : df i = true
      · rw [show runs df (some f) i (d + 1) = if df i = true then runs df (some f) (i + 1) d else (f, i - f) :: runs df none (i + 1) d from rfl, if_pos h]
        refine ih (i + 1) (some f) (fun f' e => by injection e with e; omega) u v huv (by omega) (.inr ⟨f, rfl, ?_⟩) (fun k h1 h2 h3 => hd k h1 h2 (by omega))
        rcases hs with hs | ⟨f', e, hs⟩
        · omega
        · injection e with e; omega
      · rw [show runs df (some f) i (d + 1) = if df i = true then runs df (some f) (i + 1) d else (f, i - f) :: runs df none (i + 1) d from rfl, if_neg h]
        by_cases hvi : v < i
        · refine ⟨(f, i - f), .head _, ?_, by show v < f + (i - f); omega⟩
          rcases hs with hs | ⟨f', e, hs⟩
          · omega
          · injection e with e; subst e; exact hs
        · have : ¬ u ≤ i := fun e => h (hd i e (by omega) (Nat.le_refl _))
          obtain ⟨x, hx, r⟩ := ih (i + 1) none (fun f e => by cases e) u v huv (by omega) (.inl (by omega)) (fun k h1 h2 h3 => hd k h1 h2 (by omega))
          exact ⟨x, .tail _ hx, r⟩
theorem wallsFrom_has (cl : Nat → Nat → Int) (level : Bool) (places : Nat) {x : WallT} : ∀ d line, 1 ≤ line → line < 1 + d → x ∈ wallsRow cl level line places → x ∈ wallsFrom cl level places d := by
  intro d
  induction d with
  | zero => intro line h1 h2; omega
  | succ d ih =>
    intro line h1 h2 hx
    show x ∈ wallsFrom cl level places d ++ wallsRow cl level (1 + d) places
    by_cases e : line = 1 + d
    · subst e; exact List.mem_append_right _ hx
    · exact List.mem_append_left _ (ih line h1 (by omega) hx)
theorem wall_has (cl : Nat → Nat → Int) {h wd : Nat} (level : Bool) {line u v : Nat} (h1 : 1 ≤ line) (h2 : line < if level then h else wd) (huv : u ≤ v) (hv : v < if level then wd else h) (hd : ∀ k, u ≤ k → k ≤ v → dfL cl level line k = true) :
    ∃ x ∈ wallsL cl h wd, x.1 = level ∧ x.2.1 = line ∧ x.2.2.1 ≤ u ∧ v < x.2.2.1 + x.2.2.2 := by
  obtain ⟨y, hy, r1, r2⟩ := runs_has (dfL cl level line) (if level then wd else h) 0 none (fun f e => by cases e) u v huv (by omega) (.inl (Nat.zero_le _)) (fun k a b _ => hd k a b)
  refine ⟨(level, line, y.1, y.2), ?_, rfl, rfl, r1, r2⟩
  unfold wallsL
  cases level with
  | false =>
    refine List.mem_append_left _ (wallsFrom_has cl false h (wd - 1) line h1 (by simp at h2; omega) ?_)
    exact List.mem_map.2 ⟨y, hy, rfl⟩
  | true =>
    refine List.mem_append_right _ (wallsFrom_has cl true wd (h - 1) line h1 (by simp at h2; omega) ?_)
    exact List.mem_map.2 ⟨y, hy, rfl⟩
theorem sideA_mem {cl : Nat → Nat → Int} {x : WallT} {v : Int} : v ∈ sideA cl x ↔ ∃ r, x.2.2.1 ≤ r ∧ r < x.2.2.1 + x.2.2.2 ∧ (sidesL cl x.1 x.2.1 r).1 = v := by
  unfold sideA
  rw [List.mem_map]
  constructor
  · rintro ⟨i, hi, e⟩; exact ⟨x.2.2.1 + i, by omega, by have := List.mem_range.1 hi; omega, e⟩
  · rintro ⟨r, h1, h2, e⟩; exact ⟨r - x.2.2.1, List.mem_range.2 (by omega), by rw [show x.2.2.1 + (r - x.2.2.1) = r by omega]; exact e⟩
theorem sideB_mem {cl : Nat → Nat → Int} {x : WallT} {v : Int} : v ∈ sideB cl x ↔ ∃ r, x.2.2.1 ≤ r ∧ r < x.2.2.1 + x.2.2.2 ∧ (sidesL cl x.1 x.2.1 r).2 = v := by
  unfold sideB
  rw [List.mem_map]
  constructor
  · rintro ⟨i, hi, e⟩; exact ⟨x.2.2.1 + i, by omega, by have := List.mem_range.1 hi; omega, e⟩
  · rintro ⟨r, h1, h2, e⟩; exact ⟨r - x.2.2.1, List.mem_range.2 (by omega), by rw [show x.2.2.1 + (r - x.2.2.1) = r by omega]; exact e⟩
theorem just_left (cl : Nat → Nat → Int) {h wd a b : Nat} : justB cl false (wallsL cl h wd) a b = true ↔ LSeg cl h wd a b := by
  rw [justB_iff]
  constructor
  · rintro ⟨⟨lv, line, f, n⟩, hx, e, ha, hb⟩
    change lv = false at e
    subst e
    obtain ⟨h1, h2, h3, h4⟩ := wallsL_in hx
    obtain ⟨i, i1, i2, i3⟩ := sideA_mem.1 ha
    obtain ⟨j, j1, j2, j3⟩ := sideB_mem.1 hb
    simp only [Bool.false_eq_true, if_false] at h1 h2 h3 h4 i1 i2 i3 j1 j2 j3
    refine ⟨line, i, j, h1.1, h1.2, by omega, by omega, fun r hr => ?_, i3, j3⟩
    have := h4 r (by omega) (by omega)
    unfold dfL at this
    intro e
    simp [sidesL, e] at this
  · rintro ⟨x, i, j, h1, h2, h3, h4, h5, ea, eb⟩
    obtain ⟨y, hy, y1, y2, y3, y4⟩ := wall_has cl (h := h) (wd := wd) false (line := x) (u := min i j) (v := max i j) h1 h2 (by omega) (by show max i j < h; omega) (fun k k1 k2 => by
      have := h5 k (by omega)
      unfold dfL sidesL
      simpa using this)
    refine ⟨y, hy, y1, sideA_mem.2 ⟨i, by omega, by omega, ?_⟩, sideB_mem.2 ⟨j, by omega, by omega, ?_⟩⟩
    · rw [y1, y2]; exact ea
    · rw [y1, y2]; exact eb
theorem just_above (cl : Nat → Nat → Int) {h wd a b : Nat} : justB cl true (wallsL cl h wd) a b = true ↔ ASeg cl h wd a b := by
  rw [justB_iff]
  constructor
  · rintro ⟨⟨lv, line, f, n⟩, hx, e, ha, hb⟩
    change lv = true at e
    subst e
    obtain ⟨h1, h2, h3, h4⟩ := wallsL_in hx
    obtain ⟨i, i1, i2, i3⟩ := sideA_mem.1 ha
    obtain ⟨j, j1, j2, j3⟩ := sideB_mem.1 hb
    simp only [if_true] at h1 h2 h3 h4 i1 i2 i3 j1 j2 j3
    refine ⟨line, i, j, h1.1, h1.2, by omega, by omega, fun r hr => ?_, i3, j3⟩
    have := h4 r (by omega) (by omega)
    unfold dfL at this
    intro e
    unfold Ytdhnjecbdclmaaa.flip at e
    simp [sidesL, e] at this
  · rintro ⟨x, i, j, h1, h2, h3, h4, h5, ea, eb⟩
    obtain ⟨y, hy, y1, y2, y3, y4⟩ := wall_has cl (h := h) (wd := wd) true (line := x) (u := min i j) (v := max i j) h1 h2 (by omega) (by show max i j < wd; omega) (fun k k1 k2 => by
      have := h5 k (by omega)
      unfold Ytdhnjecbdclmaaa.flip at this
      unfold dfL sidesL
      simpa using this)
    refine ⟨y, hy, y1, sideA_mem.2 ⟨i, by omega, by omega, ?_⟩, sideB_mem.2 ⟨j, by omega, by omega, ?_⟩⟩
    · rw [y1, y2]; exact ea
    · rw [y1, y2]; exact eb
def roomCol (boxes : List Box) (a : Nat) : Nat := (boxes.getD a (0, 0, 0, 0)).2.1.toNat
def roomRow (boxes : List Box) (a : Nat) : Nat := (boxes.getD a (0, 0, 0, 0)).1.toNat
section
variable {cl : Nat → Nat → Int} {boxes : List Box} {h wd : Nat} (f : Flat cl boxes h wd)
include f
theorem left_grows {a b : Nat} (ha : a < boxes.length) (hb : b < boxes.length) (hs : LSeg cl h wd a b) : roomCol boxes a < roomCol boxes b ∧ roomCol boxes b < 6 := by
  obtain ⟨x, i, j, h1, h2, h3, h4, h5, ea, eb⟩ := hs
  obtain ⟨r, c, ph, pw, e, g1, g2, g3, g4, g5⟩ := f.box a ha
  obtain ⟨r', c', ph', pw', e', k1, k2, k3, k4, k5⟩ := f.box b hb
  have ca : roomCol boxes a = c := by unfold roomCol; rw [List.getD_eq_getElem?_getD, List.getElem?_eq_getElem ha, Option.getD_some, e]; rfl
  have cb : roomCol boxes b = c' := by unfold roomCol; rw [List.getD_eq_getElem?_getD, List.getElem?_eq_getElem hb, Option.getD_some, e']; rfl
  rw [ca, cb]
  have u1 := (g5 i (x - 1) h3 (by omega)).1 ea
  have u2 := (k5 j x h4 h2).1 eb
  have u3 : ¬ cl j (x - 1) = (b : Int) := fun q => h5 j (by omega) (by rw [q, eb])
  have u4 := fun q => u3 ((k5 j (x - 1) h4 (by omega)).2 q)
  have := f.wide
  constructor
  · by_cases q : c' ≤ x - 1
    · exact absurd ⟨u2.1, ⟨q, by omega⟩⟩ u4
    · omega
  · omega
theorem above_grows {a b : Nat} (ha : a < boxes.length) (hb : b < boxes.length) (hs : ASeg cl h wd a b) : roomRow boxes a < roomRow boxes b ∧ roomRow boxes b < 6 := by
  obtain ⟨x, i, j, h1, h2, h3, h4, h5, ea, eb⟩ := hs
  obtain ⟨r, c, ph, pw, e, g1, g2, g3, g4, g5⟩ := f.box a ha
  obtain ⟨r', c', ph', pw', e', k1, k2, k3, k4, k5⟩ := f.box b hb
  have ca : roomRow boxes a = r := by unfold roomRow; rw [List.getD_eq_getElem?_getD, List.getElem?_eq_getElem ha, Option.getD_some, e]; rfl
  have cb : roomRow boxes b = r' := by unfold roomRow; rw [List.getD_eq_getElem?_getD, List.getElem?_eq_getElem hb, Option.getD_some, e']; rfl
  rw [ca, cb]
  unfold Ytdhnjecbdclmaaa.flip at h5 ea eb
  have u1 := (g5 (x - 1) i (by omega) h3).1 ea
  have u2 := (k5 x j h2 h4).1 eb
  have u3 : ¬ cl (x - 1) j = (b : Int) := fun q => h5 j (by omega) (by rw [q, eb])
  have u4 := fun q => u3 ((k5 (x - 1) j (by omega) h4).2 q)
  have := f.high
  constructor
  · by_cases q : r' ≤ x - 1
    · exact absurd ⟨⟨q, by omega⟩, u2.2⟩ u4
    · omega
  · omega
end
def leftR (cl : Nat → Nat → Int) (h wd n : Nat) : Nat → Nat → Bool := closeB n (justB cl false (wallsL cl h wd))
def aboveR (cl : Nat → Nat → Int) (h wd n : Nat) : Nat → Nat → Bool := closeB n (justB cl true (wallsL cl h wd))
theorem small_back {n : Nat} {R : Nat → Nat → Bool} {g : Nat → Nat} (h : ∀ a b, a < n → b < n → R a b = true → g a < g b ∧ g b < 6) : (∀ a b, a < n → b < n → closeB n R a b = true → g a < g b) ∧ (∀ a b, a < n → b < n → closeB n R b a = true → 6 - min (g a) 6 < 6 - min (g b) 6) := by
  have h1 : ∀ a b, a < n → b < n → closeB n R a b = true → g a < g b := close_grows fun a b ha hb hr => (h a b ha hb hr).1
  have h2 : ∀ a b, a < n → b < n → closeB n R a b = true → min (g a) 6 < min (g b) 6 := close_grows (f := fun x => min (g x) 6) fun a b ha hb hr => by
    have := h a b ha hb hr
    show min (g a) 6 < min (g b) 6
    omega
  refine ⟨h1, fun a b ha hb hr => ?_⟩
  have := h2 b a hb ha hr
  omega
theorem leftR_grows {cl : Nat → Nat → Int} {boxes : List Box} {h wd : Nat} (f : Flat cl boxes h wd) : (∃ rk, Grows boxes.length (leftR cl h wd boxes.length) rk) ∧ (∃ rk, Grows boxes.length (fun x y => leftR cl h wd boxes.length y x) rk) := by
  obtain ⟨h1, h2⟩ := small_back (n := boxes.length) (R := justB cl false (wallsL cl h wd)) (g := roomCol boxes) fun a b ha hb hr => left_grows f ha hb ((just_left cl).1 hr)
  exact ⟨⟨_, grows_rank h1⟩, ⟨_, grows_rank (f := fun x => 6 - min (roomCol boxes x) 6) h2⟩⟩
theorem aboveR_grows {cl : Nat → Nat → Int} {boxes : List Box} {h wd : Nat} (f : Flat cl boxes h wd) : (∃ rk, Grows boxes.length (aboveR cl h wd boxes.length) rk) ∧ (∃ rk, Grows boxes.length (fun x y => aboveR cl h wd boxes.length y x) rk) := by
  obtain ⟨h1, h2⟩ := small_back (n := boxes.length) (R := justB cl true (wallsL cl h wd)) (g := roomRow boxes) fun a b ha hb hr => above_grows f ha hb ((just_above cl).1 hr)
  exact ⟨⟨_, grows_rank h1⟩, ⟨_, grows_rank (f := fun x => 6 - min (roomRow boxes x) 6) h2⟩⟩
end Go.Proofs.Ytdhnjecbdclmaaa
