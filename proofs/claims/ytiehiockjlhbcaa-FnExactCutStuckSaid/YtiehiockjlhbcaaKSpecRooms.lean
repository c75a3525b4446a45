/- The reference's rooms, boxes and cells of a plan are the scan's, in plain Lean. -/
import Derived.Test.YtiehiockjlhbcaaKSpecNames
namespace Go.Proofs.Ytiehiockjlhbcaa
open Go.RowKit Go.Shelf Go.Proofs.YtiehiockjlhbcaaW.PrintWords Go.Proofs.YtiehiockjlhbcaaW.PrintMore L2
set_option linter.unusedVariables false

theorem same_from (a b : List ByteArray) (hl : a.length = b.length) (hm : a.length ≤ 2000000) : ∀ d i, a.length - i = d → i ≤ a.length → ∃ k, spec_l1Same.l0 k a b (i : Int) = some (decide (a.drop i = b.drop i)) := by
  intro d
  induction d with
  | zero =>
    intro i hd hi
    refine ⟨1, ?_⟩
    unfold spec_l1Same.l0
    rw [if_neg (by omega), List.drop_of_length_le (by omega), List.drop_of_length_le (by omega)]
    rfl
  | succ d ih =>
    intro i hd hi
    have hia : i < a.length := by omega
    have hib : i < b.length := by omega
    obtain ⟨k, hk⟩ := ih (i + 1) (by omega) (by omega)
    refine ⟨k + 1, ?_⟩
    unfold spec_l1Same.l0
    rw [if_pos (by omega), if_pos (by omega), if_pos (by omega), rdOf_at hia, rdOf_at hib, show a.drop i = a[i] :: a.drop (i + 1) from (List.getElem_cons_drop hia).symm, show b.drop i = b[i] :: b.drop (i + 1) from (List.getElem_cons_drop hib).symm]
    by_cases h : a[i] = b[i]
    · rw [h, if_pos rfl, wrap_succ (by omega), hk]
      congr 1
      rw [Bool.eq_iff_iff, decide_eq_true_eq, decide_eq_true_eq]
      exact ⟨fun e => by rw [e], fun e => by injection e⟩
    · rw [if_neg (fun e => h (by
        rw [toList_data, toList_data] at e
        exact ByteArray.ext (Array.toList_inj.1 e)))]
      rw [decide_eq_false]
      intro e
      injection e with e1 _
      exact h e1
theorem same_f (a b : List ByteArray) (hm : a.length ≤ 2000000) (hb : b.length ≤ 2000000) : ∃ k, spec_l1Same.f k a b = some (decide (a = b)) := by
  by_cases hl : a.length = b.length
  · obtain ⟨k, hk⟩ := same_from a b hl hm _ 0 rfl (Nat.zero_le _)
    refine ⟨k, ?_⟩
    unfold spec_l1Same.f
    rw [if_pos (by omega)]
    exact hk
  · refine ⟨0, ?_⟩
    unfold spec_l1Same.f
    rw [if_neg (by omega), decide_eq_false (fun e => hl (by rw [e]))]

/-- A grid of texts whose cells f tells. -/
structure TextGrid (p : List ByteArray) (wd : Nat) (f : Nat → Int) : Prop where
  high : p.length ≤ 6
  wide : wd ≤ 6
  size : ∀ i (hi : i < p.length), p[i].size = wd
  cell : ∀ i c (hi : i < p.length), c < wd → bt p[i] (c : Int) = f (i * wd + c)
  let_ : ∀ n, n < p.length * wd → 97 ≤ f n ∧ f n ≤ 122
theorem TextGrid.at_ {p : List ByteArray} {wd : Nat} {f : Nat → Int} (h : TextGrid p wd f) {i c : Nat} (hi : i < p.length) (hc : c < wd) : i * wd + c < p.length * wd ∧ i * wd + c ≤ 100 := by
  have h1 : (i + 1) * wd ≤ p.length * wd := Nat.mul_le_mul_right _ hi
  have h2 : p.length * wd ≤ 6 * 6 := Nat.mul_le_mul h.high h.wide
  rw [Nat.succ_mul] at h1
  omega
/-- The greatest letter's number and one, of the first n cells. -/
def rmx (f : Nat → Int) : Nat → Int
  | 0 => 0
  | n + 1 => mx (rmx f n) (f n - 97 + 1)
theorem rooms_row {p : List ByteArray} {wd : Nat} {f : Nat → Int} (h : TextGrid p wd f) (i : Nat) (hi : i < p.length) (R : Int) (hR : ∃ k, spec_l1Rooms.l0 k p (rmx f ((i + 1) * wd)) ((i + 1 : Nat) : Int) = some R) :
    ∀ d j, wd - j = d → j ≤ wd → ∃ k, spec_l1Rooms.l1 k p (rmx f (i * wd + j)) (i : Int) (j : Int) = some R := by
  have hs := h.size i hi
  have hh := h.high
  have hw := h.wide
  intro d
  induction d with
  | zero =>
    intro j hd hj
    have hjw : j = wd := by omega
    subst hjw
    obtain ⟨k, hk⟩ := hR
    refine ⟨k + 1, ?_⟩
    unfold spec_l1Rooms.l1
    rw [if_pos (by omega), if_pos (by omega), rdOf_at hi, if_neg (by omega), wrap_succ (by omega)]
    rw [Nat.succ_mul] at hk
    exact hk
  | succ d ih =>
    intro j hd hj
    obtain ⟨k, hk⟩ := ih (j + 1) (by omega) (by omega)
    have hl := h.let_ _ (h.at_ hi (show j < wd by omega)).1
    refine ⟨k + 1, ?_⟩
    unfold spec_l1Rooms.l1
    rw [if_pos (by omega), if_pos (by omega), rdOf_at hi, if_pos (by omega), if_pos (by omega), h.cell i j hi (by omega), wrap_succ (by omega)]
    have hwr : wrap64 (wrap64 (wrap64 (f (i * wd + j)) - 97) + 1) = f (i * wd + j) - 97 + 1 := by unfold wrap64; omega
    rw [hwr]
    exact hk
theorem rooms_from {p : List ByteArray} {wd : Nat} {f : Nat → Int} (h : TextGrid p wd f) : ∀ d i, p.length - i = d → i ≤ p.length → ∃ k, spec_l1Rooms.l0 k p (rmx f (i * wd)) (i : Int) = some (rmx f (p.length * wd)) := by
  intro d
  induction d with
  | zero =>
    intro i hd hi
    have : i = p.length := by omega
    subst this
    refine ⟨1, ?_⟩
    unfold spec_l1Rooms.l0
    rw [if_neg (by omega)]
  | succ d ih =>
    intro i hd hi
    obtain ⟨k, hk⟩ := rooms_row h i (by omega) _ (ih (i + 1) (by omega) (by omega)) _ 0 rfl (Nat.zero_le _)
    refine ⟨k + 1, ?_⟩
    unfold spec_l1Rooms.l0
    rw [if_pos (by omega)]
    exact hk
theorem rooms_f {p : List ByteArray} {wd : Nat} {f : Nat → Int} (h : TextGrid p wd f) : ∃ k, spec_l1Rooms.f k p = some (rmx f (p.length * wd)) := by
  obtain ⟨k, hk⟩ := rooms_from h _ 0 rfl (Nat.zero_le _)
  rw [Nat.zero_mul] at hk
  exact ⟨k, hk⟩
theorem rmx_named {wd : Nat} {f : Nat → Int} {N : Nat} (h : Named wd f N) : ∀ n, n ≤ N → rmx f n = ((scan wd f n).1.length : Int) := by
  intro n
  induction n with
  | zero => intro _; rfl
  | succ n ih =>
    intro hn
    have e := h n (by omega)
    show mx (rmx f n) (f n - 97 + 1) = _
    rw [ih (by omega), scan_fst]
    unfold numAt at e
    by_cases hm : f n ∈ (scan wd f n).1
    · have := List.idxOf_lt_length_of_mem hm
      rw [if_pos hm]
      unfold mx
      omega
    · have := List.idxOf_eq_length hm
      rw [if_neg hm, List.length_append, List.length_singleton]
      unfold mx
      omega
/-- How many of the first n cells bear a room's letter. -/
theorem cells_row {p : List ByteArray} {wd : Nat} {f : Nat → Int} (h : TextGrid p wd f) (r : Int) (hr : 0 ≤ r ∧ r ≤ 100) (i : Nat) (hi : i < p.length) (R : Int) (hR : ∃ k, spec_l1Cells.l0 k p r ((cntX f (97 + r) ((i + 1) * wd) : Nat) : Int) ((i + 1 : Nat) : Int) = some R) :
    ∀ d j, wd - j = d → j ≤ wd → ∃ k, spec_l1Cells.l1 k p r ((cntX f (97 + r) (i * wd + j) : Nat) : Int) (i : Int) (j : Int) = some R := by
  have hs := h.size i hi
  have hh := h.high
  have hw := h.wide
  intro d
  induction d with
  | zero =>
    intro j hd hj
    have hjw : j = wd := by omega
    subst hjw
    obtain ⟨k, hk⟩ := hR
    refine ⟨k + 1, ?_⟩
    unfold spec_l1Cells.l1
    rw [if_pos (by omega), if_pos (by omega), rdOf_at hi, if_neg (by omega), wrap_succ (by omega)]
    rw [Nat.succ_mul] at hk
    exact hk
  | succ d ih =>
    intro j hd hj
    obtain ⟨k, hk⟩ := ih (j + 1) (by omega) (by omega)
    have hl := h.let_ _ (h.at_ hi (show j < wd by omega)).1
    have hc : cntX f (97 + r) (i * wd + (j + 1)) = cntX f (97 + r) (i * wd + j) + if f (i * wd + j) = 97 + r then 1 else 0 := rfl
    have hcl : cntX f (97 + r) (i * wd + j) ≤ 100 := by
      have h1 : cntX f (97 + r) (i * wd + j) ≤ sumTo (fun _ => 1) (i * wd + j) := sumTo_le (fun m _ => by split <;> omega)
      have h2 : ∀ n, sumTo (fun _ => 1) n = n := fun n => by induction n with
        | zero => rfl
        | succ n ih => show sumTo _ n + 1 = _; rw [ih]
      rw [h2] at h1
      have := (h.at_ hi (show j < wd by omega)).2
      omega
    refine ⟨k + 1, ?_⟩
    unfold spec_l1Cells.l1
    rw [if_pos (by omega), if_pos (by omega), rdOf_at hi, if_pos (by omega), if_pos (by omega), h.cell i j hi (by omega), wrap_succ (by omega)]
    have hwr : wrap64 (wrap64 (f (i * wd + j)) - 97) = f (i * wd + j) - 97 := by unfold wrap64; omega
    rw [hwr]
    by_cases he : f (i * wd + j) = 97 + r
    · rw [if_pos (by omega), wrap_succ (by omega)]
      rw [hc, if_pos he] at hk
      exact hk
    · rw [if_neg (by omega), wrap_succ (j := j) (by omega)]
      rw [hc, if_neg he, Nat.add_zero] at hk
      exact hk
theorem cells_from {p : List ByteArray} {wd : Nat} {f : Nat → Int} (h : TextGrid p wd f) (r : Int) (hr : 0 ≤ r ∧ r ≤ 100) : ∀ d i, p.length - i = d → i ≤ p.length → ∃ k, spec_l1Cells.l0 k p r ((cntX f (97 + r) (i * wd) : Nat) : Int) (i : Int) = some ((cntX f (97 + r) (p.length * wd) : Nat) : Int) := by
  intro d
  induction d with
  | zero =>
    intro i hd hi
    have : i = p.length := by omega
    subst this
    refine ⟨1, ?_⟩
    unfold spec_l1Cells.l0
    rw [if_neg (by omega)]
  | succ d ih =>
    intro i hd hi
    obtain ⟨k, hk⟩ := cells_row h r hr i (by omega) _ (ih (i + 1) (by omega) (by omega)) _ 0 rfl (Nat.zero_le _)
    refine ⟨k + 1, ?_⟩
    unfold spec_l1Cells.l0
    rw [if_pos (by omega)]
    exact hk
theorem cells_f {p : List ByteArray} {wd : Nat} {f : Nat → Int} (h : TextGrid p wd f) (r : Int) (hr : 0 ≤ r ∧ r ≤ 100) : ∃ k, spec_l1Cells.f k p r = some ((cntX f (97 + r) (p.length * wd) : Nat) : Int) := by
  obtain ⟨k, hk⟩ := cells_from h r hr _ 0 rfl (Nat.zero_le _)
  rw [Nat.zero_mul] at hk
  exact ⟨k, hk⟩
/-- The box of a room, as the reference finds it: top, left, low, right of the first n cells. -/
abbrev Ends := Int × Int × Int × Int
def endsOf (wd : Nat) (f : Nat → Int) (r : Int) (H W : Int) : Nat → Ends
  | 0 => (H, W, -1, -1)
  | n + 1 => if f n = 97 + r then (mn (endsOf wd f r H W n).1 ((n / wd : Nat) : Int), mn (endsOf wd f r H W n).2.1 ((n % wd : Nat) : Int), mx (endsOf wd f r H W n).2.2.1 ((n / wd : Nat) : Int), mx (endsOf wd f r H W n).2.2.2 ((n % wd : Nat) : Int)) else endsOf wd f r H W n
theorem room_row {p : List ByteArray} {wd : Nat} {f : Nat → Int} (h : TextGrid p wd f) (r H W : Int) (i : Nat) (hi : i < p.length) (R : Ends) (hR : ∃ k, spec_l1Room.l0 k p r (endsOf wd f r H W ((i + 1) * wd)).1 (endsOf wd f r H W ((i + 1) * wd)).2.1 (endsOf wd f r H W ((i + 1) * wd)).2.2.1 (endsOf wd f r H W ((i + 1) * wd)).2.2.2 ((i + 1 : Nat) : Int) = some R) (hr : 0 ≤ r ∧ r ≤ 100) :
    ∀ d j, wd - j = d → j ≤ wd → ∃ k, spec_l1Room.l1 k p r (endsOf wd f r H W (i * wd + j)).1 (endsOf wd f r H W (i * wd + j)).2.1 (endsOf wd f r H W (i * wd + j)).2.2.1 (endsOf wd f r H W (i * wd + j)).2.2.2 (i : Int) (j : Int) = some R := by
  have hs := h.size i hi
  have hh := h.high
  have hw := h.wide
  intro d
  induction d with
  | zero =>
    intro j hd hj
    have hjw : j = wd := by omega
    subst hjw
    obtain ⟨k, hk⟩ := hR
    refine ⟨k + 1, ?_⟩
    unfold spec_l1Room.l1
    rw [if_pos (by omega), if_pos (by omega), rdOf_at hi, if_neg (by omega), wrap_succ (by omega)]
    rw [Nat.succ_mul] at hk
    exact hk
  | succ d ih =>
    intro j hd hj
    obtain ⟨k, hk⟩ := ih (j + 1) (by omega) (by omega)
    have hl := h.let_ _ (h.at_ hi (show j < wd by omega)).1
    have hstep : endsOf wd f r H W (i * wd + (j + 1)) = if f (i * wd + j) = 97 + r then (mn (endsOf wd f r H W (i * wd + j)).1 (i : Int), mn (endsOf wd f r H W (i * wd + j)).2.1 (j : Int), mx (endsOf wd f r H W (i * wd + j)).2.2.1 (i : Int), mx (endsOf wd f r H W (i * wd + j)).2.2.2 (j : Int)) else endsOf wd f r H W (i * wd + j) := by
      show endsOf wd f r H W ((i * wd + j) + 1) = _
      unfold endsOf
      rw [(div_row (show j < wd by omega)).1, (div_row (show j < wd by omega)).2]
      cases h0 : i * wd + j <;> rfl
    refine ⟨k + 1, ?_⟩
    unfold spec_l1Room.l1
    rw [if_pos (by omega), if_pos (by omega), rdOf_at hi, if_pos (by omega), if_pos (by omega), h.cell i j hi (by omega), wrap_succ (j := j) (by omega)]
    have hwr : wrap64 (wrap64 (f (i * wd + j)) - 97) = f (i * wd + j) - 97 := by unfold wrap64; omega
    rw [hwr]
    by_cases he : f (i * wd + j) = 97 + r
    · rw [if_pos (by omega)]
      rw [hstep, if_pos he] at hk
      exact hk
    · rw [if_neg (by omega)]
      rw [hstep, if_neg he] at hk
      exact hk
end Go.Proofs.Ytiehiockjlhbcaa
