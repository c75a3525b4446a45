/- The reference's first cut, its exchange of rows and columns, and its parts of a cut. -/
import Derived.Test.YtbpppchkgjcahaaKAFirstM
namespace Go.Proofs.Ytbpppchkgjcahaa
open Go.RowKit Go.Shelf Go.Proofs.YtbpppchkgjcahaaW.PrintWords Go.Proofs.YtbpppchkgjcahaaW.PrintMore L3
set_option linter.unusedVariables false
def thruG (G : Nat → Nat → Int) (h k : Nat) : Bool := (List.range h).all fun i => G i (k - 1) != G i k
def isLong (h : Nat) (e : List Int) : Bool := rd e 2 == (h : Int)
theorem col_short (G : Nat → Nat → Int) (h k : Nat) : ∀ d (f : Int) i, i + d = h + 1 → (f < 0 → 1 ≤ i) → (0 ≤ f → 1 ≤ f) → (colL G h k f i d).filter (isLong h) = [] := by
  intro d
  induction d with
  | zero => intro f i _ _ _; rfl
  | succ d ih =>
    intro f i hi h1 h2
    unfold colL
    split
    · split
      · exact ih _ _ (by omega) (by omega) (by omega)
      · exact ih _ _ (by omega) (by omega) (by omega)
    · split
      · rename_i hf
        rw [List.filter_cons, if_neg, ih _ _ (by omega) (by omega) (by omega)]
        unfold isLong rd
        rw [beq_iff_eq]
        show ¬ ((i : Int) - f = (h : Int))
        omega
      · exact ih _ _ (by omega) (by omega) (by omega)
theorem col_zero (G : Nat → Nat → Int) (h k : Nat) : ∀ d i, i + d = h + 1 → 1 ≤ i → 1 ≤ d → (colL G h k 0 i d).filter (isLong h) = if ((List.range h).drop i).all (fun r => G r (k - 1) != G r k) then [[(k : Int), 0, (h : Int)]] else [] := by
  intro d
  induction d with
  | zero => intro i _ _ hd; omega
  | succ d ih =>
    intro i hi h1 _
    unfold colL
    by_cases hih : i < h
    · have hdr : ((List.range h).drop i).all (fun r => G r (k - 1) != G r k) = ((G i (k - 1) != G i k) && ((List.range h).drop (i + 1)).all (fun r => G r (k - 1) != G r k)) := by
        rw [List.drop_eq_getElem_cons (by simpa using hih), List.all_cons, List.getElem_range]
      rw [hdr, decide_eq_true hih, Bool.true_and]
      cases hb : (G i (k - 1) != G i k) with
      | true =>
        rw [if_pos rfl, if_neg (by omega), Bool.true_and]
        exact ih (i + 1) (by omega) (by omega) (by omega)
      | false =>
        rw [if_neg (by simp), if_pos (by omega), Bool.false_and, if_neg (by simp), List.filter_cons, if_neg, col_short G h k d (-1) (i + 1) (by omega) (by omega) (by omega)]
        unfold isLong rd
        rw [beq_iff_eq]
        show ¬ ((i : Int) - 0 = (h : Int))
        omega
    · have hih2 : i = h := by omega
      subst hih2
      rw [decide_eq_false hih, Bool.false_and, if_neg (by simp), if_pos (by omega), List.drop_of_length_le (by simp), List.all_nil, if_pos rfl, List.filter_cons, if_pos, col_short G i k d (-1) (i + 1) (by omega) (by omega) (by omega)]
      · simp
      · unfold isLong rd
        rw [beq_iff_eq]
        show (i : Int) - 0 = (i : Int)
        omega
theorem col_long (G : Nat → Nat → Int) (h k : Nat) (hh : 1 ≤ h) : (colL G h k (-1) 0 (h + 1)).filter (isLong h) = if thruG G h k then [[(k : Int), 0, (h : Int)]] else [] := by
  unfold colL
  have hall : thruG G h k = ((G 0 (k - 1) != G 0 k) && ((List.range h).drop 1).all (fun r => G r (k - 1) != G r k)) := by
    unfold thruG
    have := List.drop_eq_getElem_cons (l := List.range h) (i := 0) (by simp; omega)
    rw [List.drop_zero] at this
    conv => lhs; rw [this, List.all_cons, List.getElem_range]
  rw [decide_eq_true (show 0 < h by omega), Bool.true_and, hall]
  cases hb : (G 0 (k - 1) != G 0 k) with
  | true =>
    rw [if_pos rfl, if_pos (by omega), Bool.true_and]
    exact col_zero G h k h 1 (by omega) (by omega) hh
  | false =>
    rw [if_neg (by simp), if_neg (by omega), Bool.false_and, if_neg (by simp)]
    exact col_short G h k h (-1) (0 + 1) (by omega) (by omega) (by omega)
theorem up_long (G : Nat → Nat → Int) (h : Nat) (hh : 1 ≤ h) : ∀ d k, (upL G h k d).filter (isLong h) = ((List.range' k d).filter (thruG G h)).map fun (k : Nat) => [(k : Int), 0, (h : Int)] := by
  intro d
  induction d with
  | zero => intro k; rfl
  | succ d ih =>
    intro k
    unfold upL
    rw [List.filter_append, ih, col_long G h k hh, List.range'_succ, List.filter_cons]
    split <;> rfl
theorem col_three (G : Nat → Nat → Int) (h k : Nat) : ∀ d f i, ∀ e ∈ colL G h k f i d, e.length = 3 := by
  intro d
  induction d with
  | zero => intro f i e he; cases he
  | succ d ih =>
    intro f i e he
    unfold colL at he
    split at he
    · split at he
      · exact ih _ _ e he
      · exact ih _ _ e he
    · split at he
      · rcases List.mem_cons.1 he with rfl | he
        · rfl
        · exact ih _ _ e he
      · exact ih _ _ e he
theorem up_three (G : Nat → Nat → Int) (h : Nat) : ∀ d k, ∀ e ∈ upL G h k d, e.length = 3 := by
  intro d
  induction d with
  | zero => intro k e he; cases he
  | succ d ih =>
    intro k e he
    unfold upL at he
    rcases List.mem_append.1 he with he | he
    · exact col_three G h k _ _ _ e he
    · exact ih _ e he
theorem rdL_at {L : List (List Int)} {i : Nat} (hi : i < L.length) : rd_L2 L (i : Int) = L[i] := by
  unfold rd_L2
  rw [Int.toNat_natCast, List.getD_eq_getElem?_getD, List.getElem?_eq_getElem hi]; rfl
def headR (z : Int) (R0 : Int × Int) : List (List Int) → Int × Int
  | [] => R0
  | e :: _ => (z, rd e 0)
theorem cut_l0 {p : List ByteArray} {h w : Nat} {G : Nat → Nat → Int} (t : TG p h w G) (L : List (List Int)) (h3 : ∀ e ∈ L, e.length = 3) (hL : L.length ≤ 1000) (R0 : Int × Int)
    (hR : Ev (fun k => (spec_l1Trans.f k p).bind fun t143 => (spec_l2Upright.f k t143).bind fun t146 => spec_l3Cut.l1 k p t146 0) R0) :
    ∀ d i, i + d = L.length → Ev (fun k => spec_l3Cut.l0 k p L (i : Int)) (headR 0 R0 ((L.drop i).filter (isLong h))) := by
  have hl := t.len
  intro d
  induction d with
  | zero =>
    intro i hi
    rw [List.drop_of_length_le (by omega), List.filter_nil]
    refine hR.step fun k => ?_
    show spec_l3Cut.l0 (k + 1) p L _ = _
    conv => lhs; unfold spec_l3Cut.l0
    rw [if_neg (by omega)]
  | succ d ih =>
    intro i hi
    have hil : i < L.length := by omega
    have he := h3 _ (List.getElem_mem hil)
    rw [List.drop_eq_getElem_cons hil, List.filter_cons]
    by_cases hlong : isLong h L[i] = true
    · rw [if_pos hlong]
      refine Ev.now fun k => ?_
      unfold spec_l3Cut.l0
      unfold isLong at hlong
      rw [beq_iff_eq] at hlong
      rw [if_pos (by omega), if_pos (by omega), rdL_at hil, he, if_pos (by omega), if_pos (by rw [hlong, hl]), if_pos (by omega)]
      rfl
    · rw [if_neg hlong]
      refine (ih (i + 1) (by omega)).step fun k => ?_
      show spec_l3Cut.l0 (k + 1) p L _ = _
      conv => lhs; unfold spec_l3Cut.l0
      unfold isLong at hlong
      rw [beq_iff_eq] at hlong
      rw [if_pos (by omega), if_pos (by omega), rdL_at hil, he, if_pos (by omega), if_neg (by rw [hl]; exact hlong), wsucc (by omega)]
theorem cut_l1 {p : List ByteArray} {h w : Nat} {G : Nat → Nat → Int} (t : TG p h w G) (L : List (List Int)) (h3 : ∀ e ∈ L, e.length = 3) (hL : L.length ≤ 1000) :
    ∀ d i, i + d = L.length → Ev (fun k => spec_l3Cut.l1 k p L (i : Int)) (headR 1 (0, 0) ((L.drop i).filter (isLong w))) := by
  have hl := t.len
  have hh := t.high
  have hs0 := t.size 0 (by omega)
  rw [show ((0 : Nat) : Int) = 0 from rfl] at hs0
  intro d
  induction d with
  | zero =>
    intro i hi
    rw [List.drop_of_length_le (by omega), List.filter_nil]
    refine Ev.now fun k => ?_
    unfold spec_l3Cut.l1
    rw [if_neg (by omega)]; rfl
  | succ d ih =>
    intro i hi
    have hil : i < L.length := by omega
    have he := h3 _ (List.getElem_mem hil)
    rw [List.drop_eq_getElem_cons hil, List.filter_cons]
    by_cases hlong : isLong w L[i] = true
    · rw [if_pos hlong]
      refine Ev.now fun k => ?_
      unfold spec_l3Cut.l1
      unfold isLong at hlong
      rw [beq_iff_eq] at hlong
      rw [if_pos (by omega), if_pos (by omega), rdL_at hil, he, if_pos (by omega), if_pos (by omega), if_pos (by rw [hlong, hs0]), if_pos (by omega)]
      rfl
    · rw [if_neg hlong]
      refine (ih (i + 1) (by omega)).step fun k => ?_
      show spec_l3Cut.l1 (k + 1) p L _ = _
      conv => lhs; unfold spec_l3Cut.l1
      unfold isLong at hlong
      rw [beq_iff_eq] at hlong
      rw [if_pos (by omega), if_pos (by omega), rdL_at hil, he, if_pos (by omega), if_pos (by omega), if_neg (by rw [hs0]; exact hlong), wsucc (by omega)]
theorem rdOf_map {n : Nat} (F : Nat → ByteArray) {i : Nat} (hi : i < n) : rdOf ByteArray.empty ((List.range n).map F) (i : Int) = F i := by
  unfold rdOf
  rw [Int.toNat_natCast, List.getD_eq_getElem?_getD, List.getElem?_map, List.getElem?_range hi]; rfl
theorem TG.made {h w : Nat} {G : Nat → Nat → Int} (F : Nat → ByteArray) (hh : 1 ≤ h ∧ h ≤ 6) (hw : 1 ≤ w ∧ w ≤ 6) (hs : ∀ i, i < h → (F i).size = w) (hc : ∀ i j, i < h → j < w → bt (F i) (j : Int) = G i j) (hl : ∀ i j, i < h → j < w → 97 ≤ G i j ∧ G i j ≤ 122) : TG ((List.range h).map F) h w G where
  len := by simp
  size := fun i hi => by rw [rdOf_map F hi]; exact hs i hi
  cell := fun i j hi hj => by rw [rdOf_map F hi]; exact hc i j hi hj
  let_ := hl
  high := hh
  wide := hw
theorem bt_lt {s : ByteArray} {j : Nat} (h : j < s.size) : bt s (j : Int) = ((s[j]).toNat : Int) := by
  unfold bt
  rw [dif_pos (by simpa using h)]
  simp only [Int.toNat_natCast]
theorem str_size (xs : List Int) : (strOfNums xs).size = xs.length := by
  unfold strOfNums ByteArray.size
  simp
theorem str_bt (xs : List Int) (hx : ∀ x ∈ xs, 0 ≤ x ∧ x ≤ 255) {j : Nat} (hj : j < xs.length) : bt (strOfNums xs) (j : Int) = xs[j] := by
  rw [bt_lt (by rw [str_size]; exact hj)]
  have h1 := hx _ (List.getElem_mem hj)
  have : (strOfNums xs)[j]'(by rw [str_size]; exact hj) = UInt8.ofNat (xs[j]).toNat := by
    show ((strOfNums xs).data)[j]'_ = _
    unfold strOfNums
    simp
  rw [this, UInt8.toNat_ofNat', Nat.mod_eq_of_lt (by omega)]
  omega
theorem ex_size {s : ByteArray} {a b : Nat} (hab : a ≤ b) (hb : b ≤ s.size) : (s.extract a b).size = b - a := by rw [ByteArray.size_extract]; omega
theorem ex_bt {s : ByteArray} {a b j : Nat} (hb : b ≤ s.size) (hj : a + j < b) : bt (s.extract a b) (j : Int) = bt s ((a + j : Nat) : Int) := by
  rw [bt_lt (by rw [ByteArray.size_extract]; omega), bt_lt (by omega), ByteArray.getElem_extract]
def transT (h w : Nat) (G : Nat → Nat → Int) : List ByteArray := (List.range w).map fun j => strOfNums ((List.range h).map fun i => G i j)
theorem trans_row {p : List ByteArray} {h w : Nat} {G : Nat → Nat → Int} (t : TG p h w G) (j : Nat) (hj : j < w) (out : List ByteArray) (ho : out.length ≤ 100) (R : List ByteArray)
    (hR : Ev (fun k => spec_l1Trans.l0 k p (out ++ [strOfNums ((List.range h).map fun i => G i j)]) ((j + 1 : Nat) : Int)) R) :
    ∀ d i, i + d = h → Ev (fun k => spec_l1Trans.l1 k p out (j : Int) ((List.range i).map fun r => G r j) (i : Int)) R := by
  have hl := t.len
  have hh := t.high
  have hw := t.wide
  intro d
  induction d with
  | zero =>
    intro i hi
    obtain rfl : i = h := by omega
    refine hR.step fun k => ?_
    show spec_l1Trans.l1 (k + 1) p _ _ _ _ = _
    conv => lhs; unfold spec_l1Trans.l1
    rw [if_neg (by omega), if_pos (by omega), wsucc (by omega)]
  | succ d ih =>
    intro i hi
    have hs := t.size i (by omega)
    have hc := t.cell i j (by omega) hj
    refine (ih (i + 1) (by omega)).step fun k => ?_
    show spec_l1Trans.l1 (k + 1) p _ _ _ _ = _
    conv => lhs; unfold spec_l1Trans.l1
    rw [if_pos (by omega), if_pos (by omega), if_pos (by omega), if_pos (by omega), if_pos (by simp; omega), hc, wsucc (by omega), List.range_succ, List.map_append]
    rfl
theorem trans_from {p : List ByteArray} {h w : Nat} {G : Nat → Nat → Int} (t : TG p h w G) : ∀ d j, j + d = w → Ev (fun k => spec_l1Trans.l0 k p ((List.range j).map fun j => strOfNums ((List.range h).map fun i => G i j)) (j : Int)) (transT h w G) := by
  have hl := t.len
  have hh := t.high
  have hw := t.wide
  have hs0 := t.size 0 (by omega)
  rw [show ((0 : Nat) : Int) = 0 from rfl] at hs0
  intro d
  induction d with
  | zero =>
    intro j hj
    obtain rfl : j = w := by omega
    refine Ev.now fun k => ?_
    unfold spec_l1Trans.l0
    rw [if_pos (by omega), if_neg (by omega)]; rfl
  | succ d ih =>
    intro j hj
    have hE := ih (j + 1) (by omega)
    rw [List.range_succ, List.map_append] at hE
    refine (trans_row t j (by omega) _ (by simp; omega) _ hE h 0 (by omega)).step fun k => ?_
    show spec_l1Trans.l0 (k + 1) p _ _ = _
    conv => lhs; unfold spec_l1Trans.l0
    rw [if_pos (by omega), if_pos (by omega)]; rfl
theorem trans_f {p : List ByteArray} {h w : Nat} {G : Nat → Nat → Int} (t : TG p h w G) : Ev (fun k => spec_l1Trans.f k p) (transT h w G) := trans_from t w 0 (by omega)
theorem trans_TG {p : List ByteArray} {h w : Nat} {G : Nat → Nat → Int} (t : TG p h w G) : TG (transT h w G) w h (fun i j => G j i) := by
  refine TG.made _ t.wide t.high (fun i hi => by rw [str_size]; simp) (fun i j hi hj => ?_) (fun i j hi hj => t.let_ j i hj hi)
  rw [str_bt _ ?_ (by simpa using hj)]
  · simp
  · intro x hx
    obtain ⟨r, hr, rfl⟩ := List.mem_map.1 hx
    have := t.let_ r i (List.mem_range.1 hr) hi
    omega
def cutsG (G : Nat → Nat → Int) (h w : Nat) : List (Bool × Nat) := ((List.range' 1 (w - 1)).filter (thruG G h)).map (fun k => (false, k)) ++ ((List.range' 1 (h - 1)).filter (thruG (fun i j => G j i) w)).map fun k => (true, k)
def firstG : Option (Bool × Nat) → Int × Int
  | none => (0, 0)
  | some (b, k) => (if b then 1 else 0, (k : Int))
theorem cut_f {p : List ByteArray} {h w : Nat} {G : Nat → Nat → Int} (t : TG p h w G) : Ev (fun k => spec_l3Cut.f k p) (firstG (cutsG G h w).head?) := by
  have hh := t.high
  have hw := t.wide
  have hu := upL_len G h (w - 1) 1
  have hb : (w - 1) * (h + 1) ≤ 5 * 7 := Nat.mul_le_mul (by omega) (by omega)
  have hv := upL_len (fun i j => G j i) w (h - 1) 1
  have hb2 : (h - 1) * (w + 1) ≤ 5 * 7 := Nat.mul_le_mul (by omega) (by omega)
  have hR := (trans_f t).bind (F := fun k t143 => (spec_l2Upright.f k t143).bind fun t146 => spec_l3Cut.l1 k p t146 0) ((up_f (trans_TG t)).bind (F := fun k t146 => spec_l3Cut.l1 k p t146 0) (cut_l1 t _ (up_three _ _ _ _) (by omega) _ 0 (Nat.zero_add _)))
  have hE := (up_f t).bind (F := fun k t136 => spec_l3Cut.l0 k p t136 0) (cut_l0 t _ (up_three _ _ _ _) (by omega) _ hR _ 0 (Nat.zero_add _))
  rw [List.drop_zero, List.drop_zero, up_long G h hh.1, up_long _ w hw.1] at hE
  have he : headR 0 (headR 1 (0, 0) (((List.range' 1 (h - 1)).filter (thruG (fun i j => G j i) w)).map fun (k : Nat) => [(k : Int), 0, (w : Int)])) (((List.range' 1 (w - 1)).filter (thruG G h)).map fun (k : Nat) => [(k : Int), 0, (h : Int)]) = firstG (cutsG G h w).head? := by
    unfold cutsG
    cases h1 : (List.range' 1 (w - 1)).filter (thruG G h) with
    | cons a l => rfl
    | nil =>
      cases h2 : (List.range' 1 (h - 1)).filter (thruG (fun i j => G j i) w) with
      | cons a l => rfl
      | nil => rfl
  rw [he] at hE
  exact hE
end Go.Proofs.Ytbpppchkgjcahaa
