/- Texts of this claim's, joined by a program: LPart, LCuts, LFirst, LText, LSpecCut, LSpecCutB, LWallP, LPutL. -/
import Derived.Test.YtdhnjecbdclmaaaKLShelfM
import Derived.RangeFuncBound
import Derived.Shelf.RegionOpen
import Derived.WalkKit
import Derived.TacticsInMore
import Derived.LoopNIn
import Derived.LoopIn
import Derived.Lib.SmallJoins
import Derived.Test.YtdhnjecbdclmaaaKLL3x1
import Derived.Lib.SlicesCompact
section
namespace Go.Proofs.Ytdhnjecbdclmaaa
open Go.RowKit Go.Shelf Go.Proofs.YtdhnjecbdclmaaaW.PrintWords Go.Proofs.YtdhnjecbdclmaaaW.PrintMore
set_option linter.unusedVariables false
end Go.Proofs.Ytdhnjecbdclmaaa
end
section
namespace Go.Proofs.Ytdhnjecbdclmaaa
open Go.RowKit Go.Shelf Go.Proofs.YtdhnjecbdclmaaaW.PrintWords Go.Proofs.YtdhnjecbdclmaaaW.PrintMore
set_option linter.unusedVariables false
end Go.Proofs.Ytdhnjecbdclmaaa
end
section
namespace Go.Proofs.Ytdhnjecbdclmaaa
open Go.RowKit Go.Shelf Go.Proofs.YtdhnjecbdclmaaaW.PrintWords Go.Proofs.YtdhnjecbdclmaaaW.PrintMore
attribute [local go_sem] Oper.semAt_some
set_option linter.unusedVariables false
end Go.Proofs.Ytdhnjecbdclmaaa
end
section
namespace Go.Proofs.Ytdhnjecbdclmaaa
open Go.RowKit Go.Shelf Go.Proofs.YtdhnjecbdclmaaaW.PrintWords Go.Proofs.YtdhnjecbdclmaaaW.PrintMore
set_option linter.unusedVariables false
abbrev Rc := Nat × Nat × Nat × Nat
structure Within (r c ph pw : Nat) (R : Rc) : Prop where
  row : r ≤ R.1 ∧ R.1 + R.2.2.1 ≤ r + ph
  col : c ≤ R.2.1 ∧ R.2.1 + R.2.2.2 ≤ c + pw
  some : 1 ≤ ph → 1 ≤ pw → 1 ≤ R.2.2.1 ∧ 1 ≤ R.2.2.2
  less : R.2.2.1 + R.2.2.2 < ph + pw
end Go.Proofs.Ytdhnjecbdclmaaa
end
section
namespace Go.Proofs.Ytdhnjecbdclmaaa
open Go.RowKit Go.Shelf Go.Proofs.YtdhnjecbdclmaaaW.PrintWords Go.Proofs.YtdhnjecbdclmaaaW.PrintMore L3
set_option linter.unusedVariables false
def Ev {α : Type} (g : Nat → Option α) (r : α) : Prop := ∃ k0, ∀ k, k0 ≤ k → g k = some r
theorem Ev.now {α : Type} {g : Nat → Option α} {r : α} (h : ∀ k, g (k + 1) = some r) : Ev g r := ⟨1, fun k hk => by obtain ⟨j, rfl⟩ : ∃ j, k = j + 1 := ⟨k - 1, by omega⟩; exact h j⟩
theorem Ev.step {α : Type} {g g' : Nat → Option α} {r : α} (h : Ev g r) (hs : ∀ k, g' (k + 1) = g k) : Ev g' r := by
  obtain ⟨k0, h⟩ := h
  exact ⟨k0 + 1, fun k hk => by obtain ⟨j, rfl⟩ : ∃ j, k = j + 1 := ⟨k - 1, by omega⟩; rw [hs]; exact h j (by omega)⟩
theorem Ev.same {α : Type} {g g' : Nat → Option α} {r : α} (h : Ev g r) (hs : ∀ k, g' k = g k) : Ev g' r := by
  obtain ⟨k0, h⟩ := h
  exact ⟨k0, fun k hk => by rw [hs]; exact h k hk⟩
theorem Ev.bind {α β : Type} {g : Nat → Option α} {F : Nat → α → Option β} {a : α} {r : β} (h : Ev g a) (h2 : Ev (fun k => F k a) r) : Ev (fun k => (g k).bind (F k)) r := by
  obtain ⟨k0, h⟩ := h
  obtain ⟨k1, h2⟩ := h2
  exact ⟨k0 + k1, fun k hk => by show (g k).bind (F k) = _; rw [h k (by omega), Option.bind_some]; exact h2 k (by omega)⟩
theorem Ev.stepBind {α β : Type} {g : Nat → Option α} {g' : Nat → Option β} {F : Nat → α → Option β} {a : α} {r : β} (h : Ev g a) (hs : ∀ k, g' (k + 1) = (g k).bind (F k)) (h2 : Ev (fun k => F k a) r) : Ev g' r := (h.bind h2).step hs
theorem Ev.const {α : Type} (r : α) : Ev (fun _ => some r) r := ⟨0, fun _ _ => rfl⟩
theorem Ev.ex {α : Type} {g : Nat → Option α} {r : α} (h : Ev g r) : ∃ k, g k = some r := by
  obtain ⟨k0, h⟩ := h
  exact ⟨k0, h k0 (Nat.le_refl _)⟩
structure TG (p : List ByteArray) (h w : Nat) (G : Nat → Nat → Int) : Prop where
  len : p.length = h
  size : ∀ i, i < h → (rdOf ByteArray.empty p (i : Int)).size = w
  cell : ∀ i j, i < h → j < w → bt (rdOf ByteArray.empty p (i : Int)) (j : Int) = G i j
  let_ : ∀ i j, i < h → j < w → 97 ≤ G i j ∧ G i j ≤ 122
  high : 1 ≤ h ∧ h ≤ 6
  wide : 1 ≤ w ∧ w ≤ 6
theorem wsucc {j : Nat} (h : j ≤ 9000000) : wrap64 ((j : Int) + 1) = ((j + 1 : Nat) : Int) := wrap_succ h
def colL (G : Nat → Nat → Int) (h k : Nat) : Int → Nat → Nat → List (List Int)
  | _, _, 0 => []
  | from_, i, d + 1 =>
    if (decide (i < h) && (G i (k - 1) != G i k)) = true then
      (if from_ < 0 then colL G h k i (i + 1) d else colL G h k from_ (i + 1) d)
    else (if from_ ≥ 0 then [(k : Int), from_, (i : Int) - from_] :: colL G h k (-1) (i + 1) d else colL G h k from_ (i + 1) d)
theorem colL_len (G : Nat → Nat → Int) (h k : Nat) : ∀ d f i, (colL G h k f i d).length ≤ d := by
  intro d
  induction d with
  | zero => intro f i; exact Nat.le_refl _
  | succ d ih =>
    intro f i
    unfold colL
    split
    · split
      · exact Nat.le_succ_of_le (ih _ _)
      · exact Nat.le_succ_of_le (ih _ _)
    · split
      · rw [List.length_cons]; exact Nat.succ_le_succ (ih _ _)
      · exact Nat.le_succ_of_le (ih _ _)
theorem up_col {p : List ByteArray} {h w : Nat} {G : Nat → Nat → Int} (t : TG p h w G) (k : Nat) (hk : 1 ≤ k ∧ k < w) (R : List (List Int)) :
    ∀ d i (acc : List (List Int)) (f : Int), i + d = h + 1 → acc.length ≤ 100 + i → -1 ≤ f → f ≤ i → Ev (fun n => spec_l2Upright.l0 n p (acc ++ colL G h k f i d) ((k + 1 : Nat) : Int)) R → Ev (fun n => spec_l2Upright.l1 n p acc (k : Int) f (i : Int)) R := by
  have hl := t.len
  have hh := t.high
  have hw := t.wide
  have hk1 : wrap64 ((k : Int) - 1) = ((k - 1 : Nat) : Int) := by unfold wrap64; omega
  intro d
  induction d with
  | zero =>
    intro i acc f hi ha hf hfi hR
    unfold colL at hR
    rw [List.append_nil] at hR
    refine hR.step fun n => ?_
    show spec_l2Upright.l1 (n + 1) p _ _ _ _ = _
    unfold spec_l2Upright.l1
    rw [if_neg (by omega), wsucc (by omega)]
  | succ d ih =>
    intro i acc f hi ha hf hfi hR
    unfold colL at hR
    have key : ∀ b : Bool, (decide (i < h) && (G i (k - 1) != G i k)) = b → Ev (fun n => spec_l2Upright.j2 n p acc (k : Int) f (i : Int) b) R → Ev (fun n => spec_l2Upright.l1 n p acc (k : Int) f (i : Int)) R := by
      intro b hb hE
      refine hE.step fun n => ?_
      show spec_l2Upright.l1 (n + 1) p _ _ _ _ = _
      unfold spec_l2Upright.l1
      rw [if_pos (by omega)]
      by_cases hih : i < h
      · have hs := t.size i hih
        have c1 := t.cell i (k - 1) hih (by omega)
        have c2 := t.cell i k hih (by omega)
        rw [if_pos (by omega), if_pos (by omega), hk1, if_pos (by omega), if_pos (by omega), if_pos (by omega), if_pos (by omega), c1, c2]
        rw [decide_eq_true hih, Bool.true_and] at hb
        rw [hb]
      · rw [if_neg (by omega)]
        rw [decide_eq_false hih, Bool.false_and] at hb
        rw [hb]
    have hw1 : wrap64 ((i : Int) - f) = (i : Int) - f := by unfold wrap64; omega
    cases hb : (decide (i < h) && (G i (k - 1) != G i k)) with
    | true =>
      rw [hb, if_pos rfl] at hR
      refine key true hb ?_
      by_cases hf0 : f < 0
      · rw [if_pos hf0] at hR
        refine ((ih (i + 1) acc i (by omega) (by omega) (by omega) (by omega) hR).step (g' := fun n => spec_l2Upright.j3 n p acc (k : Int) f (i : Int) true true) fun n => ?_).step fun n => ?_
        · show spec_l2Upright.j3 (n + 1) p _ _ _ _ _ _ = _
          unfold spec_l2Upright.j3
          rw [if_pos rfl, if_pos rfl, wsucc (by omega)]
        · show spec_l2Upright.j2 (n + 1) p _ _ _ _ _ = _
          unfold spec_l2Upright.j2
          rw [if_pos rfl, decide_eq_true hf0]
      · rw [if_neg hf0] at hR
        refine ((ih (i + 1) acc f (by omega) (by omega) (by omega) (by omega) hR).step (g' := fun n => spec_l2Upright.j3 n p acc (k : Int) f (i : Int) true false) fun n => ?_).step fun n => ?_
        · show spec_l2Upright.j3 (n + 1) p _ _ _ _ _ _ = _
          unfold spec_l2Upright.j3
          rw [if_neg (by simp), if_pos rfl, wsucc (by omega)]
        · show spec_l2Upright.j2 (n + 1) p _ _ _ _ _ = _
          unfold spec_l2Upright.j2
          rw [if_pos rfl, decide_eq_false hf0]
    | false =>
      rw [hb, if_neg (by simp)] at hR
      refine key false hb ?_
      by_cases hf0 : f ≥ 0
      · rw [if_pos hf0] at hR
        rw [show acc ++ [(k : Int), f, (i : Int) - f] :: colL G h k (-1) (i + 1) d = (acc ++ [[(k : Int), f, (i : Int) - f]]) ++ colL G h k (-1) (i + 1) d by simp] at hR
        refine ((ih (i + 1) _ (-1) (by omega) (by rw [List.length_append]; simp; omega) (by omega) (by omega) hR).step (g' := fun n => spec_l2Upright.j3 n p acc (k : Int) f (i : Int) false false) fun n => ?_).step fun n => ?_
        · show spec_l2Upright.j3 (n + 1) p _ _ _ _ _ _ = _
          unfold spec_l2Upright.j3
          rw [if_neg (by simp), if_neg (by simp), if_pos hf0, if_pos (by omega), hw1, wsucc (by omega)]
        · show spec_l2Upright.j2 (n + 1) p _ _ _ _ _ = _
          unfold spec_l2Upright.j2
          rw [if_neg (by simp)]
      · rw [if_neg hf0] at hR
        refine ((ih (i + 1) acc f (by omega) (by omega) (by omega) (by omega) hR).step (g' := fun n => spec_l2Upright.j3 n p acc (k : Int) f (i : Int) false false) fun n => ?_).step fun n => ?_
        · show spec_l2Upright.j3 (n + 1) p _ _ _ _ _ _ = _
          unfold spec_l2Upright.j3
          rw [if_neg (by simp), if_neg (by simp), if_neg hf0, wsucc (by omega)]
        · show spec_l2Upright.j2 (n + 1) p _ _ _ _ _ = _
          unfold spec_l2Upright.j2
          rw [if_neg (by simp)]
def upL (G : Nat → Nat → Int) (h : Nat) : Nat → Nat → List (List Int)
  | _, 0 => []
  | k, d + 1 => colL G h k (-1) 0 (h + 1) ++ upL G h (k + 1) d
theorem upL_len (G : Nat → Nat → Int) (h : Nat) : ∀ d k, (upL G h k d).length ≤ d * (h + 1) := by
  intro d
  induction d with
  | zero => intro k; simp [upL]
  | succ d ih =>
    intro k
    unfold upL
    have := colL_len G h k (h + 1) (-1) 0
    have := ih (k + 1)
    rw [List.length_append, Nat.succ_mul]
    omega
theorem up_from {p : List ByteArray} {h w : Nat} {G : Nat → Nat → Int} (t : TG p h w G) : ∀ d k (acc : List (List Int)), k + d = w → 1 ≤ k → acc.length ≤ 7 * k → Ev (fun n => spec_l2Upright.l0 n p acc (k : Int)) (acc ++ upL G h k d) := by
  have hl := t.len
  have hh := t.high
  have hw := t.wide
  have hs0 := t.size 0 (by omega)
  rw [show ((0 : Nat) : Int) = 0 from rfl] at hs0
  intro d
  induction d with
  | zero =>
    intro k acc hk h1 ha
    refine Ev.now fun n => ?_
    unfold spec_l2Upright.l0
    rw [if_pos (by omega), if_neg (by omega)]
    unfold upL
    rw [List.append_nil]
  | succ d ih =>
    intro k acc hk h1 ha
    have hc := colL_len G h k (h + 1) (-1) 0
    have hE := ih (k + 1) (acc ++ colL G h k (-1) 0 (h + 1)) (by omega) (by omega) (by rw [List.length_append]; omega)
    rw [List.append_assoc] at hE
    refine (up_col t k (by omega) _ (h + 1) 0 acc (-1) (by omega) (by omega) (by omega) (by omega) hE).step fun n => ?_
    show spec_l2Upright.l0 (n + 1) p _ _ = _
    conv => lhs; unfold spec_l2Upright.l0
    rw [if_pos (by omega), if_pos (by omega)]; rfl
theorem up_f {p : List ByteArray} {h w : Nat} {G : Nat → Nat → Int} (t : TG p h w G) : Ev (fun n => spec_l2Upright.f n p) (upL G h 1 (w - 1)) := by
  have := up_from t (w - 1) 1 [] (by have := t.wide; omega) (by omega) (by simp)
  exact this
end Go.Proofs.Ytdhnjecbdclmaaa
end
section
namespace Go.Proofs.Ytdhnjecbdclmaaa
open Go.RowKit Go.Shelf Go.Proofs.YtdhnjecbdclmaaaW.PrintWords Go.Proofs.YtdhnjecbdclmaaaW.PrintMore L3
set_option linter.unusedVariables false
theorem col_three (G : Nat → Nat → Int) (h k : Nat) : ∀ d f i, ∀ e ∈ colL G h k f i d, e.length = 3 := by
  intro d
  induction d with
  | zero => intro f i e he; cases he
  | succ d ih =>
    intro f i e he
    unfold colL at he
    split at he
    · split at he
      · exact ih _ _ e he
      · exact ih _ _ e he
    · split at he
      · rcases List.mem_cons.1 he with rfl | he
        · rfl
        · exact ih _ _ e he
      · exact ih _ _ e he
theorem up_three (G : Nat → Nat → Int) (h : Nat) : ∀ d k, ∀ e ∈ upL G h k d, e.length = 3 := by
  intro d
  induction d with
  | zero => intro k e he; cases he
  | succ d ih =>
    intro k e he
    unfold upL at he
    rcases List.mem_append.1 he with he | he
    · exact col_three G h k _ _ _ e he
    · exact ih _ e he
theorem rdL_at {L : List (List Int)} {i : Nat} (hi : i < L.length) : rd_L2 L (i : Int) = L[i] := by
  unfold rd_L2
  rw [Int.toNat_natCast, List.getD_eq_getElem?_getD, List.getElem?_eq_getElem hi]; rfl
theorem rdOf_map {n : Nat} (F : Nat → ByteArray) {i : Nat} (hi : i < n) : rdOf ByteArray.empty ((List.range n).map F) (i : Int) = F i := by
  unfold rdOf
  rw [Int.toNat_natCast, List.getD_eq_getElem?_getD, List.getElem?_map, List.getElem?_range hi]; rfl
theorem TG.made {h w : Nat} {G : Nat → Nat → Int} (F : Nat → ByteArray) (hh : 1 ≤ h ∧ h ≤ 6) (hw : 1 ≤ w ∧ w ≤ 6) (hs : ∀ i, i < h → (F i).size = w) (hc : ∀ i j, i < h → j < w → bt (F i) (j : Int) = G i j) (hl : ∀ i j, i < h → j < w → 97 ≤ G i j ∧ G i j ≤ 122) : TG ((List.range h).map F) h w G where
  len := by simp
  size := fun i hi => by rw [rdOf_map F hi]; exact hs i hi
  cell := fun i j hi hj => by rw [rdOf_map F hi]; exact hc i j hi hj
  let_ := hl
  high := hh
  wide := hw
theorem bt_lt {s : ByteArray} {j : Nat} (h : j < s.size) : bt s (j : Int) = ((s[j]).toNat : Int) := by
  unfold bt
  rw [dif_pos (by simpa using h)]
  simp only [Int.toNat_natCast]
theorem str_size (xs : List Int) : (strOfNums xs).size = xs.length := by
  unfold strOfNums ByteArray.size
  simp
theorem str_bt (xs : List Int) (hx : ∀ x ∈ xs, 0 ≤ x ∧ x ≤ 255) {j : Nat} (hj : j < xs.length) : bt (strOfNums xs) (j : Int) = xs[j] := by
  rw [bt_lt (by rw [str_size]; exact hj)]
  have h1 := hx _ (List.getElem_mem hj)
  have : (strOfNums xs)[j]'(by rw [str_size]; exact hj) = UInt8.ofNat (xs[j]).toNat := by
    show ((strOfNums xs).data)[j]'_ = _
    unfold strOfNums
    simp
  rw [this, UInt8.toNat_ofNat', Nat.mod_eq_of_lt (by omega)]
  omega
def transT (h w : Nat) (G : Nat → Nat → Int) : List ByteArray := (List.range w).map fun j => strOfNums ((List.range h).map fun i => G i j)
theorem trans_row {p : List ByteArray} {h w : Nat} {G : Nat → Nat → Int} (t : TG p h w G) (j : Nat) (hj : j < w) (out : List ByteArray) (ho : out.length ≤ 100) (R : List ByteArray)
    (hR : Ev (fun k => spec_l1Trans.l0 k p (out ++ [strOfNums ((List.range h).map fun i => G i j)]) ((j + 1 : Nat) : Int)) R) :
    ∀ d i, i + d = h → Ev (fun k => spec_l1Trans.l1 k p out (j : Int) ((List.range i).map fun r => G r j) (i : Int)) R := by
  have hl := t.len
  have hh := t.high
  have hw := t.wide
  intro d
  induction d with
  | zero =>
    intro i hi
    obtain rfl : i = h := by omega
    refine hR.step fun k => ?_
    show spec_l1Trans.l1 (k + 1) p _ _ _ _ = _
    conv => lhs; unfold spec_l1Trans.l1
    rw [if_neg (by omega), if_pos (by omega), wsucc (by omega)]
  | succ d ih =>
    intro i hi
    have hs := t.size i (by omega)
    have hc := t.cell i j (by omega) hj
    refine (ih (i + 1) (by omega)).step fun k => ?_
    show spec_l1Trans.l1 (k + 1) p _ _ _ _ = _
    conv => lhs; unfold spec_l1Trans.l1
    rw [if_pos (by omega), if_pos (by omega), if_pos (by omega), if_pos (by omega), if_pos (by simp; omega), hc, wsucc (by omega), List.range_succ, List.map_append]
    rfl
theorem trans_from {p : List ByteArray} {h w : Nat} {G : Nat → Nat → Int} (t : TG p h w G) : ∀ d j, j + d = w → Ev (fun k => spec_l1Trans.l0 k p ((List.range j).map fun j => strOfNums ((List.range h).map fun i => G i j)) (j : Int)) (transT h w G) := by
  have hl := t.len
  have hh := t.high
  have hw := t.wide
  have hs0 := t.size 0 (by omega)
  rw [show ((0 : Nat) : Int) = 0 from rfl] at hs0
  intro d
  induction d with
  | zero =>
    intro j hj
    obtain rfl : j = w := by omega
    refine Ev.now fun k => ?_
    unfold spec_l1Trans.l0
    rw [if_pos (by omega), if_neg (by omega)]; rfl
  | succ d ih =>
    intro j hj
    have hE := ih (j + 1) (by omega)
    rw [List.range_succ, List.map_append] at hE
    refine (trans_row t j (by omega) _ (by simp; omega) _ hE h 0 (by omega)).step fun k => ?_
    show spec_l1Trans.l0 (k + 1) p _ _ = _
    conv => lhs; unfold spec_l1Trans.l0
    rw [if_pos (by omega), if_pos (by omega)]; rfl
theorem trans_f {p : List ByteArray} {h w : Nat} {G : Nat → Nat → Int} (t : TG p h w G) : Ev (fun k => spec_l1Trans.f k p) (transT h w G) := trans_from t w 0 (by omega)
theorem trans_TG {p : List ByteArray} {h w : Nat} {G : Nat → Nat → Int} (t : TG p h w G) : TG (transT h w G) w h (fun i j => G j i) := by
  refine TG.made _ t.wide t.high (fun i hi => by rw [str_size]; simp) (fun i j hi hj => ?_) (fun i j hi hj => t.let_ j i hj hi)
  rw [str_bt _ ?_ (by simpa using hj)]
  · simp
  · intro x hx
    obtain ⟨r, hr, rfl⟩ := List.mem_map.1 hx
    have := t.let_ r i (List.mem_range.1 hr) hi
    omega
end Go.Proofs.Ytdhnjecbdclmaaa
end
section
namespace Go.Proofs.Ytdhnjecbdclmaaa
open Go.RowKit Go.Shelf Go.Proofs.YtdhnjecbdclmaaaW.PrintWords Go.Proofs.YtdhnjecbdclmaaaW.PrintMore
set_option linter.unusedVariables false
set_option linter.unusedSimpArgs false
def runs (df : Nat → Bool) : Option Nat → Nat → Nat → List (Nat × Nat)
  | none, _, 0 => []
  | some f, i, 0 => [(f, i - f)]
  | none, i, d + 1 => if df i = true then runs df (some i) (i + 1) d else runs df none (i + 1) d
  | some f, i, d + 1 => if df i = true then runs df (some f) (i + 1) d else (f, i - f) :: runs df none (i + 1) d
def fromI : Option Nat → Int
  | none => -1
  | some f => (f : Int)
theorem runs_col (G : Nat → Nat → Int) (h k : Nat) : ∀ (d i : Nat) (o : Option Nat), i + d = h → (∀ f, o = some f → f ≤ i) → colL G h k (fromI o) i (d + 1) = (runs (fun r => G r (k - 1) != G r k) o i d).map fun x => [(k : Int), (x.1 : Int), (x.2 : Int)] := by
  intro d
  induction d with
  | zero =>
    intro i o hi ho
    have hc : (decide (i < h) && (G i (k - 1) != G i k)) = false := by rw [decide_eq_false (by omega), Bool.false_and]
    cases o with
    | none =>
      rw [colL, if_neg (by rw [hc]; simp), if_neg (by show ¬ (-1 : Int) ≥ 0; omega)]
      rfl
    | some f =>
      have := ho f rfl
      rw [colL, if_neg (by rw [hc]; simp), if_pos (by show ((f : Nat) : Int) ≥ 0; omega)]
      show [[(k : Int), (f : Int), (i : Int) - (f : Int)]] = [[(k : Int), ((f, i - f).1 : Int), ((i - f : Nat) : Int)]]
      rw [show ((i - f : Nat) : Int) = (i : Int) - (f : Int) by omega]
  | succ d ih =>
    intro i o hi ho
    have hc : (decide (i < h) && (G i (k - 1) != G i k)) = (G i (k - 1) != G i k) := by rw [decide_eq_true (by omega), Bool.true_and]
    rw [colL, hc]
    cases o with
    | none =>
      by_cases hd : (G i (k - 1) != G i k) = true
      · rw [if_pos hd, if_pos (by show (-1 : Int) < 0; omega)]
        have := ih (i + 1) (some i) (by omega) (fun f e => by injection e with e; omega)
        rw [runs, if_pos hd]
        exact this
      · rw [if_neg hd, if_neg (by show ¬ (-1 : Int) ≥ 0; omega)]
        have := ih (i + 1) none (by omega) (fun f e => by cases e)
        rw [runs, if_neg hd]
        exact this
    | some f =>
      have hf := ho f rfl
      by_cases hd : (G i (k - 1) != G i k) = true
      · rw [if_pos hd, if_neg (by show ¬ ((f : Nat) : Int) < 0; omega)]
        have := ih (i + 1) (some f) (by omega) (fun f' e => by injection e with e; omega)
        rw [runs, if_pos hd]
        exact this
      · rw [if_neg hd, if_pos (by show ((f : Nat) : Int) ≥ 0; omega)]
        have := ih (i + 1) none (by omega) (fun f' e => by cases e)
        rw [runs, if_neg hd, List.map_cons]
        show [(k : Int), (f : Int), (i : Int) - (f : Int)] :: _ = [(k : Int), (f : Int), ((i - f : Nat) : Int)] :: _
        rw [show ((i - f : Nat) : Int) = (i : Int) - (f : Int) by omega]
        congr 1
def putL (acc : List Int) (x : Int) : List Int := if acc.getLast? = some x then acc else acc ++ [x]
theorem putL_compact (xs : List Int) : ∀ m, m ≤ xs.length → (xs.take m).foldl putL [] = Lib.compactUpTo xs.toArray m ∧ (0 < m → (Lib.compactUpTo xs.toArray m).getLast? = xs[m - 1]?) := by
  intro m
  induction m with
  | zero => intro _; exact ⟨rfl, fun h => absurd h (Nat.lt_irrefl 0)⟩
  | succ m ih =>
    intro hm
    obtain ⟨h1, h2⟩ := ih (by omega)
    have hg : ∀ j (hj : j < xs.length), xs.toArray[j]! = xs[j] := fun j hj => by
      rw [getElem!_pos _ j (by simpa using hj)]; simp
    have ht : (xs.take (m + 1)).foldl putL [] = putL (Lib.compactUpTo xs.toArray m) xs[m] := by
      rw [List.take_succ_eq_append_getElem (by omega), List.foldl_append, h1]; rfl
    rw [ht, Lib.compactUpTo_succ, hg m (by omega)]
    by_cases h0 : m = 0
    · subst h0
      have e : Lib.compactUpTo xs.toArray 0 = [] := rfl
      have k0 : Lib.keeps xs.toArray 0 = true := by simp [Lib.keeps]
      rw [e, k0, if_pos rfl]
      refine ⟨rfl, fun _ => ?_⟩
      show [xs[0]].getLast? = xs[0]?
      rw [List.getElem?_eq_getElem (by omega)]; rfl
    · have hl := h2 (by omega)
      rw [List.getElem?_eq_getElem (by omega)] at hl
      have hm1 := hg (m - 1) (by omega)
      by_cases he : xs[m] = xs[m - 1]
      · have hk : Lib.keeps xs.toArray m = false := Lib.keeps_neg (by omega) (by rw [hg m (by omega), hm1]; exact he)
        unfold putL
        rw [hl, if_pos (by rw [he]), hk]
        refine ⟨by simp, fun _ => ?_⟩
        rw [show m + 1 - 1 = m by omega, List.getElem?_eq_getElem (by omega), he]
        simpa using hl
      · have hk : Lib.keeps xs.toArray m = true := Lib.keeps_pos (by rw [hg m (by omega), hm1]; exact he)
        unfold putL
        rw [hl, if_neg (fun e => he (Option.some.inj e).symm), hk, if_pos rfl]
        refine ⟨rfl, fun _ => ?_⟩
        rw [show m + 1 - 1 = m by omega, List.getElem?_eq_getElem (by omega), List.getLast?_append]
        rfl
theorem putL_all (xs : List Int) : xs.foldl putL [] = Lib.compact xs := by
  have := (putL_compact xs xs.length (Nat.le_refl _)).1
  rwa [List.take_length] at this
end Go.Proofs.Ytdhnjecbdclmaaa
end
section
namespace Go.Proofs.Ytdhnjecbdclmaaa
open Go.RowKit Go.Shelf Go.Proofs.YtdhnjecbdclmaaaW.PrintWords Go.Proofs.YtdhnjecbdclmaaaW.PrintMore
set_option linter.unusedVariables false
set_option linter.unusedSimpArgs false
theorem putL_yes {l : List Int} {y : Int} : putL (l ++ [y]) y = l ++ [y] := by unfold putL; simp
theorem putL_no {l : List Int} {x y : Int} (h : y ≠ x) : putL (l ++ [y]) x = (l ++ [y]) ++ [x] := by unfold putL; simp [h]
set_option maxRecDepth 100000 in
set_option maxHeartbeats 8000000 in
theorem l2Put_any (base : Nat) (v : Value) (xs : List Int) (x : Int) (W : World) (HO : W.ownsRow base 3 1 v xs.length (nums .i64 xs)) (hbase : base ≤ W.heap.size) (hl : xs.length ≤ 100) :
    Calls Try.prog 230 #[v, .int .i64 x] W fun e w' => ∃ v1, e = .returned v1 ∧ w'.ownsRow base 3 1 v1 (putL xs x).length (nums .i64 (putL xs x)) ∧ W.grownBy w' v.ownBlock ∧ (v1.ownBlock = v.ownBlock ∨ ∃ b, v1.ownBlock = some b ∧ W.heap.size ≤ b) := by
  obtain ⟨A, c, rfl⟩ := own_slice HO
  have H0 := Aside0.mk HO
  have HB := Aside0.mk hbase
  rcases List.eq_nil_or_concat xs with rfl | ⟨l, y, rfl⟩
  · clear HO hbase
    simp only [List.length_nil] at H0 ⊢
    go_enter Try.func230, Try.ntmps230
    go_wp2_with (at_builtin; refine print_append_num (w0 := W) base rfl (.tmp 19) (.tmp 21) 37 3 .i64 8 rfl Try.underlying37 (by kernel_rfl) (by omega) _ [] x rfl rfl ?k1 (Below.refl _ _) HB.out ?k2 ?_; (case k1 => exact H0.out); (case k2 => simp); intro v1 w1 ho hB hg hat; have HO1 := Aside0.mk (And.intro ho (And.intro hg hat)); clear ho hB hg hat)
    go_ret
    exact ⟨v1, rfl, HO1.out.1, HO1.out.2.1, HO1.out.2.2⟩
  · rw [List.concat_eq_append] at H0 HO hl ⊢
    obtain ⟨g, rfl, _, k1, b1, s1, hH⟩ := own_holds HO (by simp)
    have hll : (l ++ [y]).length = l.length + 1 := by simp
    have f0 : W.cell? ⟨g, l.length, none⟩ = some (.int .i64 y) := by
      have := (hH l.length (by simp)).1
      rw [Nat.zero_add] at this
      rw [this]
      congr 2
      rw [getElem!_pos _ _ (by simp)]
      simp
    obtain ⟨m, hm⟩ : ∃ m, l.length = m := ⟨_, rfl⟩
    rw [hm] at f0 hll
    rw [hll] at H0 hl k1 ⊢
    have HM := Aside0.mk hm
    clear hH HO hbase hm hll b1 s1
    have e1 : ((m + 1 : Nat) : Int) - 1 = (m : Int) := by omega
    have e2 : (0 : Int) < ((m + 1 : Nat) : Int) := by omega
    have e3 : (m : Int) < ((m + 1 : Nat) : Int) := by omega
    have e4 : (0 : Int) ≤ (m : Int) := by omega
    by_cases hxy : y = x
    · subst hxy
      rw [putL_yes, show (l ++ [y]).length = m + 1 by rw [← HM.out]; simp]
      go_enter Try.func230, Try.ntmps230
      go_wp2_with fail
      go_ret
      exact ⟨_, rfl, H0.out, World.grownBy.refl _ _, .inl rfl⟩
    · obtain ⟨zs, hzs⟩ : ∃ zs, zs = (l ++ [y]) ++ [x] := ⟨_, rfl⟩
      rw [putL_no hxy, ← hzs]
      have HZ := Aside0.mk hzs
      clear hzs
      go_enter Try.func230, Try.ntmps230
      go_wp2_with (at_builtin; refine print_append_num (w0 := W) base rfl (.tmp 19) (.tmp 21) 37 3 .i64 8 rfl Try.underlying37 (by kernel_rfl) (by omega) _ (l ++ [y]) x rfl rfl ?k1 (Below.refl _ _) HB.out ?k2 ?_; (case k1 => rw [show (l ++ [y]).length = m + 1 by rw [← HM.out]; simp]; exact H0.out); (case k2 => rw [show (l ++ [y]).length = m + 1 by rw [← HM.out]; simp]; omega); intro v1 w1 ho hB hg hat; have HO1 := Aside0.mk (And.intro ho (And.intro hg hat)); clear ho hB hg hat)
      go_ret
      exact ⟨v1, rfl, by rw [HZ.out]; exact HO1.out.1, HO1.out.2.1, HO1.out.2.2⟩
end Go.Proofs.Ytdhnjecbdclmaaa
end
