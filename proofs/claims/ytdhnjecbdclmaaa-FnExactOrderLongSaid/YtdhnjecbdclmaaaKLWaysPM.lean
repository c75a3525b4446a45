/- Texts of this claim's, joined by a program: LWaysP, LSpecWays, LWallsG. -/
import Derived.Test.YtdhnjecbdclmaaaKLFourDM
import Derived.Test.YtdhnjecbdclmaaaKLL3x2
import Derived.Test.YtdhnjecbdclmaaaKLSpecTextM
import Derived.Test.YtdhnjecbdclmaaaKLJustP
section
namespace Go.Proofs.Ytdhnjecbdclmaaa
open Go.RowKit Go.Shelf Go.Proofs.YtdhnjecbdclmaaaW.PrintWords Go.Proofs.YtdhnjecbdclmaaaW.PrintMore
set_option linter.unusedVariables false
end Go.Proofs.Ytdhnjecbdclmaaa
end
section
namespace Go.Proofs.Ytdhnjecbdclmaaa
open Go.RowKit Go.Shelf Go.Proofs.YtdhnjecbdclmaaaW.PrintWords Go.Proofs.YtdhnjecbdclmaaaW.PrintMore L3
set_option linter.unusedVariables false
theorem walls_l1 (L acc : List (List Int)) (h3 : ∀ e ∈ L, e.length = 3) (hL : L.length ≤ 1000) : ∀ d i, i + d = L.length → ∀ acc : List (List Int), acc.length ≤ 5000 + i → Ev (fun k => spec_l2Walls.l1 k acc L (i : Int)) (acc ++ (L.drop i).map fun e => (1 : Int) :: e) := by
  intro d
  induction d with
  | zero =>
    intro i hi acc ha
    refine Ev.now fun k => ?_
    unfold spec_l2Walls.l1
    rw [if_neg (by omega), List.drop_of_length_le (by omega)]; simp
  | succ d ih =>
    intro i hi acc ha
    have hil : i < L.length := by omega
    have he := h3 _ (List.getElem_mem hil)
    have hE := ih (i + 1) (by omega) (acc ++ [(1 : Int) :: L[i]]) (by rw [List.length_append]; simp; omega)
    rw [List.drop_eq_getElem_cons hil, List.map_cons]
    rw [List.append_assoc] at hE
    refine hE.step fun k => ?_
    show spec_l2Walls.l1 (k + 1) _ _ _ = _
    conv => lhs; unfold spec_l2Walls.l1
    rw [if_pos (by omega), Option.bind_some, if_pos (by omega), rdL_at hil, if_pos (by rw [he]; simp), if_pos (by omega), wsucc (by omega)]
    rfl
theorem walls_l0 {p p2 : List ByteArray} (L M : List (List Int)) (h3 : ∀ e ∈ L, e.length = 3) (hL : L.length ≤ 1000) (hM3 : ∀ e ∈ M, e.length = 3) (hM : M.length ≤ 1000) (hR : Ev (fun k => spec_l1Trans.f k p) p2) (hR2 : Ev (fun k => spec_l2Upright.f k p2) M) : ∀ d i, i + d = L.length → ∀ acc : List (List Int), acc.length ≤ 1000 + i → Ev (fun k => spec_l2Walls.l0 k p acc L (i : Int)) (acc ++ (L.drop i).map (fun e => (0 : Int) :: e) ++ M.map fun e => (1 : Int) :: e) := by
  intro d
  induction d with
  | zero =>
    intro i hi acc ha
    have hE := hR.bind (F := fun k t215 => (spec_l2Upright.f k t215).bind fun t218 => spec_l2Walls.l1 k acc t218 0) (hR2.bind (F := fun k t218 => spec_l2Walls.l1 k acc t218 0) (walls_l1 M acc hM3 hM _ 0 (Nat.zero_add _) acc (by omega)))
    rw [List.drop_zero] at hE
    rw [List.drop_of_length_le (by omega), List.map_nil, List.append_nil]
    refine hE.step fun k => ?_
    show spec_l2Walls.l0 (k + 1) _ _ _ _ = _
    conv => lhs; unfold spec_l2Walls.l0
    rw [if_neg (by omega)]
  | succ d ih =>
    intro i hi acc ha
    have hil : i < L.length := by omega
    have he := h3 _ (List.getElem_mem hil)
    have hE := ih (i + 1) (by omega) (acc ++ [(0 : Int) :: L[i]]) (by rw [List.length_append]; simp; omega)
    rw [List.drop_eq_getElem_cons hil, List.map_cons]
    rw [List.append_assoc acc] at hE
    refine hE.step fun k => ?_
    show spec_l2Walls.l0 (k + 1) _ _ _ _ = _
    conv => lhs; unfold spec_l2Walls.l0
    rw [if_pos (by omega), Option.bind_some, if_pos (by omega), rdL_at hil, if_pos (by rw [he]; simp), if_pos (by omega), wsucc (by omega)]
    rfl
def wallsG (G : Nat → Nat → Int) (h w : Nat) : List (List Int) := ((upL G h 1 (w - 1)).map fun e => (0 : Int) :: e) ++ (upL (fun i j => G j i) w 1 (h - 1)).map fun e => (1 : Int) :: e
theorem walls_f {p : List ByteArray} {h w : Nat} {G : Nat → Nat → Int} (t : TG p h w G) : Ev (fun k => spec_l2Walls.f k p) (wallsG G h w) := by
  have hh := t.high
  have hw := t.wide
  have hu := upL_len G h (w - 1) 1
  have hb : (w - 1) * (h + 1) ≤ 5 * 7 := Nat.mul_le_mul (by omega) (by omega)
  have hv := upL_len (fun i j => G j i) w (h - 1) 1
  have hb2 : (h - 1) * (w + 1) ≤ 5 * 7 := Nat.mul_le_mul (by omega) (by omega)
  have hE := (up_f t).bind (F := fun k t202 => spec_l2Walls.l0 k p (([] : List (List Int))) t202 0) (walls_l0 (upL G h 1 (w - 1)) (upL (fun i j => G j i) w 1 (h - 1)) (up_three _ _ _ _) (by omega) (up_three _ _ _ _) (by omega) (trans_f t) (up_f (trans_TG t)) _ 0 (Nat.zero_add _) [] (by simp))
  rw [List.drop_zero, List.nil_append] at hE
  exact hE
end Go.Proofs.Ytdhnjecbdclmaaa
end
section
namespace Go.Proofs.Ytdhnjecbdclmaaa
open Go.RowKit Go.Shelf Go.Proofs.YtdhnjecbdclmaaaW.PrintWords Go.Proofs.YtdhnjecbdclmaaaW.PrintMore
set_option linter.unusedVariables false
set_option linter.unusedSimpArgs false
def wallI (x : WallT) : List Int := [if x.1 then 1 else 0, (x.2.1 : Int), (x.2.2.1 : Int), (x.2.2.2 : Int)]
theorem upL_snoc (G : Nat → Nat → Int) (h : Nat) : ∀ d k, upL G h k (d + 1) = upL G h k d ++ colL G h (k + d) (-1) 0 (h + 1) := by
  intro d
  induction d with
  | zero => intro k; show colL G h k (-1) 0 (h + 1) ++ [] = [] ++ colL G h (k + 0) (-1) 0 (h + 1); simp
  | succ d ih =>
    intro k
    show colL G h k (-1) 0 (h + 1) ++ upL G h (k + 1) (d + 1) = (colL G h k (-1) 0 (h + 1) ++ upL G h (k + 1) d) ++ _
    rw [ih (k + 1), List.append_assoc, show k + 1 + d = k + (d + 1) by omega]
theorem row_up (cl : Nat → Nat → Int) (h line : Nat) : (wallsRow cl false line h).map wallI = (colL cl h line (-1) 0 (h + 1)).map fun e => (0 : Int) :: e := by
  have e := runs_col cl h line h 0 none (by omega) (fun f e => by cases e)
  rw [show fromI none = -1 from rfl] at e
  rw [e]
  unfold wallsRow
  rw [List.map_map, List.map_map]
  rfl
theorem row_level (cl : Nat → Nat → Int) (wd line : Nat) : (wallsRow cl true line wd).map wallI = (colL (fun i j => cl j i) wd line (-1) 0 (wd + 1)).map fun e => (1 : Int) :: e := by
  have e := runs_col (fun i j => cl j i) wd line wd 0 none (by omega) (fun f e => by cases e)
  rw [show fromI none = -1 from rfl] at e
  rw [e]
  unfold wallsRow
  rw [List.map_map, List.map_map]
  rfl
theorem walls_same (cl : Nat → Nat → Int) (h wd : Nat) : wallsG cl h wd = (wallsL cl h wd).map wallI := by
  have h1 : ∀ d, (wallsFrom cl false h d).map wallI = (upL cl h 1 d).map fun e => (0 : Int) :: e := by
    intro d
    induction d with
    | zero => rfl
    | succ d ih =>
      rw [upL_snoc, List.map_append, ← ih, ← row_up]
      show (wallsFrom cl false h d ++ wallsRow cl false (1 + d) h).map wallI = _
      rw [List.map_append]
  have h2 : ∀ d, (wallsFrom cl true wd d).map wallI = (upL (fun i j => cl j i) wd 1 d).map fun e => (1 : Int) :: e := by
    intro d
    induction d with
    | zero => rfl
    | succ d ih =>
      rw [upL_snoc, List.map_append, ← ih, ← row_level]
      show (wallsFrom cl true wd d ++ wallsRow cl true (1 + d) wd).map wallI = _
      rw [List.map_append]
  unfold wallsG wallsL
  rw [List.map_append, h1, h2]
end Go.Proofs.Ytdhnjecbdclmaaa
end
