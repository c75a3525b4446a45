/- The reference's ProofCutIs answers as the program does: plain. -/
import Derived.Test.YtdhnjecbdclmaaaKSCutIsPM
import Derived.Test.YtdhnjecbdclmaaaKSL4x
import Derived.Test.YtdhnjecbdclmaaaKSLettersM
namespace Go.Proofs.Ytdhnjecbdclmaaa
open Go.RowKit Go.Shelf Go.Proofs.YtdhnjecbdclmaaaW.PrintWords Go.Proofs.YtdhnjecbdclmaaaW.PrintMore
set_option linter.unusedVariables false
set_option linter.unusedSimpArgs false
theorem plan_roomX {p : List ByteArray} (h : planG p = true) (k : Nat) (hk : k < (boxesP p).length) : spec_l1Room.f p (k : Int) = some (boxesP p)[k] := tot_ev (plan_room h k hk)
theorem plan_roomsX {p : List ByteArray} (h : planG p = true) : spec_l1Rooms.f p = some ((boxesP p).length : Int) := by
  obtain ⟨k, hk⟩ := plan_rooms h
  refine tot_ev ⟨k, fun n hn => ?_⟩
  have hO := up (g := fun k' => L2.spec_l1Rooms.f k' p) (fun k' => L2.spec_l1Rooms.mono p k') hk (n - k)
  rwa [show k + (n - k) = n by omega] at hO
theorem l6In_f (a c : Int) : L4.spec_l6In.f a 0 c = some (decide (0 ≤ a ∧ a ≤ c)) := by
  unfold L4.spec_l6In.f
  split
  · rename_i h
    congr 1
    exact Bool.eq_iff_iff.2 (by simp; omega)
  · rename_i h
    congr 1
    exact (Bool.eq_iff_iff.2 (by simp; omega))
theorem part_l1 {p : List ByteArray} (h : planG p = true) (r c ph pw : Nat) (h1 : 1 ≤ ph ∧ 1 ≤ pw) (h2 : r + ph ≤ p.length) (h3 : c + pw ≤ wdP p) :
    ∀ d j, j + d = ph → Ev (fun n => L4.spec_l12Stuck.l1 n p (c : Int) ((r : Int) + ph - 1) ((c : Int) + pw - 1) ((List.range j).map fun m => (rdOf ByteArray.empty p ((r + m : Nat) : Int)).extract c (c + pw)) ((r + j : Nat) : Int)) (!(cutsL (clP p) r c ph pw).head?.isSome) := by
  have t := planTG h
  have hhi := t.high
  have hwi := t.wide
  intro d
  induction d with
  | zero =>
    intro j hj
    have hj' : j = ph := by omega
    subst hj'
    have tg : TG ((List.range j).map fun m => (rdOf ByteArray.empty p ((r + m : Nat) : Int)).extract c (c + pw)) j pw (gridOf (clP p) r c) := by
      refine TG.made _ ⟨by omega, by omega⟩ ⟨by omega, by omega⟩ (fun i hi => ?_) (fun i k hi hk => ?_) (fun i k hi hk => ?_)
      · rw [ex_size (by omega) (by rw [t.size _ (by omega)]; exact h3)]; omega
      · rw [ex_bt (by rw [t.size _ (by omega)]; exact h3) (by omega), t.cell _ _ (by omega) (by omega)]
        unfold gridOf
        rw [Nat.zero_add, Nat.zero_add]
      · have := t.let_ (r + i) (c + k) (by omega) (by omega)
        unfold gridOf at this ⊢
        rwa [Nat.zero_add, Nat.zero_add] at this
    have hc := tot_ev (cut_f tg)
    change spec_l3Cut.f _ = _ at hc
    refine Ev.now fun k => ?_
    rw [L4.spec_l12Stuck.l1]
    rw [if_neg (by omega), hc, cuts_grid]
    simp only [Option.bind_some, List.head?_map]
    cases hx : (cutsG (gridOf (clP p) r c) j pw).head? with
    | none => rfl
    | some x =>
      have hin := cutsG_in (List.mem_of_mem_head? (by rw [hx]; rfl))
      obtain ⟨b, m⟩ := x
      have hm : 1 ≤ m := by cases b <;> simp at hin <;> omega
      show some (((m : Int)) == 0) = some false
      rw [beq_eq_false_iff_ne.2 (by omega)]
  | succ d ih =>
    intro j hj
    refine (ih (j + 1) (by omega)).step fun k => ?_
    conv => lhs; rw [L4.spec_l12Stuck.l1]
    have hs := t.size (r + j) (by omega)
    rw [if_pos (by omega), if_pos (by omega), if_pos (by have := t.len; omega), if_pos (by omega), w_id (by omega) (by omega), if_pos (by omega), if_pos (by rw [hs]; omega), if_pos (by rw [List.length_map, List.length_range]; omega)]
    rw [w_id (by omega) (by omega)]
    rw [show (((c : Int) + pw - 1 + 1)).toNat = c + pw by omega, show ((c : Int)).toNat = c by omega]
    rw [List.range_succ, List.map_append]
    rfl
def EndsAt (h wd : Nat) (i : Nat) (R : Box) (t l lo ri : Int) : Prop := if i = 0 then t = (h : Int) ∧ l = (wd : Int) ∧ lo = -1 ∧ ri = -1 else BoxFl h wd R ∧ t = R.1 ∧ l = R.2.1 ∧ lo = R.1 + R.2.2.1 - 1 ∧ ri = R.2.1 + R.2.2.2 - 1
theorem ends_more {h wd i : Nat} {R B : Box} {t l lo ri : Int} (e : EndsAt h wd i R t l lo ri) (hB : BoxFl h wd B) :
    EndsAt h wd (i + 1) (bothB (if i = 0 then B else R) B) (mn t B.1) (mn l B.2.1) (mx lo (B.1 + B.2.2.1 - 1)) (mx ri (B.2.1 + B.2.2.2 - 1)) := by
  unfold EndsAt at e ⊢
  rw [if_neg (by omega)]
  by_cases hi : i = 0
  · rw [if_pos hi] at e ⊢
    refine ⟨bothFl hB hB, ?_⟩
    obtain ⟨a1, a2, a3, a4, rfl, a5, a6, a7, a8⟩ := hB
    unfold bothB natB mn mx
    dsimp only
    omega
  · rw [if_neg hi] at e ⊢
    refine ⟨bothFl e.1 hB, ?_⟩
    obtain ⟨⟨b1, b2, b3, b4, rfl, b5, b6, b7, b8⟩, e⟩ := e
    obtain ⟨a1, a2, a3, a4, rfl, a5, a6, a7, a8⟩ := hB
    unfold natB at e
    dsimp only at e
    unfold bothB natB mn mx
    dsimp only
    omega
set_option maxHeartbeats 4000000 in
theorem stuck_end {p : List ByteArray} (h : planG p = true) (b : ByteArray) (hb : b.size ≤ 2000000) (i : Nat) (hi : i = b.size) (R : Box) (C t l lo ri : Int) (e : EndsAt p.length (wdP p) i R t l lo ri) (h0 : 0 ≤ C) (h1 : C ≤ 36 * (i : Int)) :
    Ev (fun n => L4.spec_l12Stuck.l0 n p b t l lo ri C (i : Int)) (decide (2 ≤ b.size) && stuckR (boxesP p) (cutB (clP p)) b 0 i R C) := by
  by_cases h2 : 2 ≤ b.size
  · unfold EndsAt at e
    rw [if_neg (by omega)] at e
    obtain ⟨⟨r, c, ph, pw, rfl, p1, p2, p3, p4⟩, rfl, rfl, rfl, rfl⟩ := e
    rw [decide_eq_true h2, Bool.true_and]
    have t := planTG h
    have hhi := t.high
    have hwi := t.wide
    have hlast := part_l1 h r c ph pw ⟨p1, p2⟩ p3 p4 ph 0 (by omega)
    have hv : stuckR (boxesP p) (cutB (clP p)) b 0 i (natB r c ph pw) C = (decide (C = areaB (natB r c ph pw)) && !(cutsL (clP p) r c ph pw).head?.isSome) := by
      show (decide _ && !cutB _ _) = _
      unfold cutB natB
      simp only [Int.toNat_natCast]
    rw [hv]
    have hm1 : ph * pw ≤ 6 * 6 := Nat.mul_le_mul (by omega) (by omega)
    have ha : wrap64 ((wrap64 (wrap64 ((r : Int) + ph - 1 - r) + 1)) * (wrap64 (wrap64 ((c : Int) + pw - 1 - c) + 1))) = areaB (natB r c ph pw) := by
      rw [w_id (x := (r : Int) + ph - 1 - r) (by omega) (by omega), w_id (x := (r : Int) + ph - 1 - r + 1) (by omega) (by omega), w_id (x := (c : Int) + pw - 1 - c) (by omega) (by omega), w_id (x := (c : Int) + pw - 1 - c + 1) (by omega) (by omega)]
      rw [show (r : Int) + ph - 1 - r + 1 = (ph : Int) by omega, show (c : Int) + pw - 1 - c + 1 = (pw : Int) by omega, ← Int.natCast_mul, w_id (by omega) (by omega)]
      show _ = (ph : Int) * (pw : Int)
      rw [Int.natCast_mul]
    by_cases hC : C = areaB (natB r c ph pw)
    · rw [decide_eq_true hC, Bool.true_and]
      refine Ev.step (g := fun k => L4.spec_l12Stuck.j1 k p (r : Int) (c : Int) ((r : Int) + ph - 1) ((c : Int) + pw - 1) false) (hlast.step fun k => ?_) fun k => ?_
      · conv => lhs; rw [L4.spec_l12Stuck.j1]
        rw [if_neg (by simp)]
        rfl
      · conv => lhs; rw [L4.spec_l12Stuck.l0]
        rw [if_neg (by omega), if_neg (by omega)]
        show L4.spec_l12Stuck.j1 k p (r : Int) (c : Int) ((r : Int) + ph - 1) ((c : Int) + pw - 1) (C != wrap64 ((wrap64 (wrap64 ((r : Int) + ph - 1 - r) + 1)) * (wrap64 (wrap64 ((c : Int) + pw - 1 - c) + 1)))) = _
        rw [ha, hC, bne_self_eq_false]
    · rw [decide_eq_false hC, Bool.false_and]
      refine Ev.step (g := fun k => L4.spec_l12Stuck.j1 k p (r : Int) (c : Int) ((r : Int) + ph - 1) ((c : Int) + pw - 1) true) (Ev.now fun k => ?_) fun k => ?_
      · rw [L4.spec_l12Stuck.j1]
        rw [if_pos rfl]
      · conv => lhs; rw [L4.spec_l12Stuck.l0]
        rw [if_neg (by omega), if_neg (by omega)]
        show L4.spec_l12Stuck.j1 k p (r : Int) (c : Int) ((r : Int) + ph - 1) ((c : Int) + pw - 1) (C != wrap64 ((wrap64 (wrap64 ((r : Int) + ph - 1 - r) + 1)) * (wrap64 (wrap64 ((c : Int) + pw - 1 - c) + 1)))) = _
        rw [ha, bne_iff_ne.2 hC]
  · rw [decide_eq_false h2, Bool.false_and]
    refine Ev.step (g := fun k => L4.spec_l12Stuck.j1 k p t l lo ri true) (Ev.now fun k => ?_) fun k => ?_
    · rw [L4.spec_l12Stuck.j1]
      rw [if_pos rfl]
    · conv => lhs; rw [L4.spec_l12Stuck.l0]
      rw [if_neg (by omega), if_pos (by omega)]
theorem bt_range {b : ByteArray} {i : Nat} (hi : i < b.size) : 0 ≤ bt b (i : Int) ∧ bt b (i : Int) ≤ 255 := by
  rw [bt_lt hi]
  have := (b[i]).toNat_lt
  omega
theorem w_ends {a c : Nat} (h : a + c ≤ 100) : wrap64 (wrap64 ((a : Int) + (c : Int)) - 1) = (a : Int) + (c : Int) - 1 := by
  rw [w_id (x := (a : Int) + c) (by omega) (by omega), w_id (by omega) (by omega)]
theorem w_cells {C A : Int} (h1 : 0 ≤ C) (h2 : C ≤ 90000000) (h3 : 0 ≤ A) (h4 : A ≤ 36) : wrap64 (C + wrap64 A) = C + A := by
  rw [w_id (x := A) (by omega) (by omega), w_id (by omega) (by omega)]
theorem w_let {x : Int} (h : 0 ≤ x ∧ x ≤ 255) : wrap64 (wrap64 x - 97) = x - 97 := by rw [w_id (x := x) (by omega) (by omega), w_id (by omega) (by omega)]
theorem w_pred {n : Nat} (h : n ≤ 9000000) : wrap64 ((n : Int) - 1) = (n : Int) - 1 := w_id (by omega) (by omega)
theorem stuckR_no {boxes : List Box} {cut : Box → Bool} {b : ByteArray} {d i : Nat} {R : Box} {C : Int} (h : (decide (0 ≤ bt b (i : Int) - 97 ∧ bt b (i : Int) - 97 < boxes.length) && !(decide (0 < i) && decide (bt b (i : Int) ≤ bt b ((i : Int) - 1)))) = false) : stuckR boxes cut b (d + 1) i R C = false := by
  rw [stuckR, if_neg (by rw [h]; simp)]
theorem stuckR_yes {boxes : List Box} {cut : Box → Bool} {b : ByteArray} {d i : Nat} {R : Box} {C : Int} (h : (decide (0 ≤ bt b (i : Int) - 97 ∧ bt b (i : Int) - 97 < boxes.length) && !(decide (0 < i) && decide (bt b (i : Int) ≤ bt b ((i : Int) - 1)))) = true) : stuckR boxes cut b (d + 1) i R C = stuckR boxes cut b d (i + 1) (bothB (if i = 0 then boxAt boxes (bt b (i : Int) - 97) else R) (boxAt boxes (bt b (i : Int) - 97))) (C + areaB (boxAt boxes (bt b (i : Int) - 97))) := by
  rw [stuckR, if_pos h]
theorem l0_out {p : List ByteArray} {nb : Nat} (hR : spec_l1Rooms.f p = some (nb : Int)) (hnb : nb ≤ 9) (b : ByteArray) (i : Nat) (hi : i < b.size) (h : ¬ (0 ≤ bt b (i : Int) - 97 ∧ bt b (i : Int) - 97 < (nb : Int))) (k : Nat) (t l lo ri C : Int) : L4.spec_l12Stuck.l0 (k + 1) p b t l lo ri C (i : Int) = some false := by
  have hx := bt_range hi
  have hw := w_let hx
  have hw2 := w_pred (n := nb) (by omega)
  have f1 : (i : Int) < (b.size : Int) := by omega
  have f2 : (0 : Int) ≤ (i : Int) := by omega
  have f3 : ¬ (0 ≤ bt b (i : Int) - 97 ∧ bt b (i : Int) - 97 ≤ (nb : Int) - 1) := by omega
  rw [L4.spec_l12Stuck.l0, if_pos f1, if_pos f2, hR]
  simp only [Option.bind_some]
  rw [hw, hw2, l6In_f, decide_eq_false f3]
  rfl
theorem l0_low {p : List ByteArray} {nb : Nat} (hR : spec_l1Rooms.f p = some (nb : Int)) (hnb : nb ≤ 9) (b : ByteArray) (i : Nat) (hi : i < b.size) (h : 0 ≤ bt b (i : Int) - 97 ∧ bt b (i : Int) - 97 < (nb : Int)) (h0 : 0 < i) (hsz : b.size ≤ 2000000) (hle : bt b (i : Int) ≤ bt b ((i : Int) - 1)) (k : Nat) (t l lo ri C : Int) : L4.spec_l12Stuck.l0 (k + 1) p b t l lo ri C (i : Int) = some false := by
  have hx := bt_range hi
  have hw := w_let hx
  have hw2 := w_pred (n := nb) (by omega)
  have hw3 := w_pred (n := i) (by omega)
  have f1 : (i : Int) < (b.size : Int) := by omega
  have f2 : (0 : Int) ≤ (i : Int) := by omega
  have f3 : 0 ≤ bt b (i : Int) - 97 ∧ bt b (i : Int) - 97 ≤ (nb : Int) - 1 := by omega
  have f4 : (i : Int) > 0 := by omega
  have f5 : 0 ≤ (i : Int) - 1 := by omega
  have f6 : (i : Int) - 1 < (b.size : Int) := by omega
  rw [L4.spec_l12Stuck.l0, if_pos f1, if_pos f2, hR]
  simp only [Option.bind_some]
  rw [hw, hw2, l6In_f, decide_eq_true f3]
  simp only [Option.bind_some, if_true]
  rw [if_pos f4, hw3, if_pos f5, if_pos f6, if_pos hle]
theorem l0_more {p : List ByteArray} {nb : Nat} (hR : spec_l1Rooms.f p = some (nb : Int)) (hnb : nb ≤ 9) (b : ByteArray) (i : Nat) (hi : i < b.size) (h : 0 ≤ bt b (i : Int) - 97 ∧ bt b (i : Int) - 97 < (nb : Int)) (hsz : b.size ≤ 2000000) (hle : ¬ (0 < i ∧ bt b (i : Int) ≤ bt b ((i : Int) - 1)))
    {h9 w9 : Nat} {B : Box} (hB : BoxFl h9 w9 B) (hh : h9 ≤ 6) (hww : w9 ≤ 6) (hrm : spec_l1Room.f p (bt b (i : Int) - 97) = some B) (k : Nat) (t l lo ri C : Int) (hC0 : 0 ≤ C) (hC1 : C ≤ 36 * (i : Int)) :
    L4.spec_l12Stuck.l0 (k + 1) p b t l lo ri C (i : Int) = L4.spec_l12Stuck.l0 k p b (mn t B.1) (mn l B.2.1) (mx lo (B.1 + B.2.2.1 - 1)) (mx ri (B.2.1 + B.2.2.2 - 1)) (C + areaB B) ((i + 1 : Nat) : Int) := by
  have hx := bt_range hi
  have hw := w_let hx
  have hw2 := w_pred (n := nb) (by omega)
  have hw3 := w_pred (n := i) (by omega)
  have f1 : (i : Int) < (b.size : Int) := by omega
  have f2 : (0 : Int) ≤ (i : Int) := by omega
  have f3 : 0 ≤ bt b (i : Int) - 97 ∧ bt b (i : Int) - 97 ≤ (nb : Int) - 1 := by omega
  have f5 : 0 < i → (i : Int) > 0 ∧ 0 ≤ (i : Int) - 1 ∧ (i : Int) - 1 < (b.size : Int) := by omega
  have f6 : ¬ 0 < i → ¬ (i : Int) > 0 := by omega
  have ha := (hB.in_ hh hww).2
  have hC9 : C ≤ 90000000 := by omega
  have e3 : wrap64 (C + wrap64 (B.2.2.1 * B.2.2.2)) = C + areaB B := w_cells hC0 hC9 (Int.le_trans (by decide) ha.1) ha.2
  have e4 := wsucc (j := i) (by omega)
  obtain ⟨a1, a2, a3, a4, rfl, a5, a6, a7, a8⟩ := hB
  have e1 : wrap64 (wrap64 ((natB a1 a2 a3 a4).1 + (natB a1 a2 a3 a4).2.2.1) - 1) = (natB a1 a2 a3 a4).1 + (natB a1 a2 a3 a4).2.2.1 - 1 := w_ends (a := a1) (c := a3) (by omega)
  have e2 : wrap64 (wrap64 ((natB a1 a2 a3 a4).2.1 + (natB a1 a2 a3 a4).2.2.2) - 1) = (natB a1 a2 a3 a4).2.1 + (natB a1 a2 a3 a4).2.2.2 - 1 := w_ends (a := a2) (c := a4) (by omega)
  conv => lhs; rw [L4.spec_l12Stuck.l0]
  rw [if_pos f1, if_pos f2, hR]
  simp only [Option.bind_some]
  rw [hw, hw2, l6In_f, decide_eq_true f3]
  simp only [Option.bind_some, if_true]
  by_cases h2 : 0 < i
  · obtain ⟨g1, g2, g3⟩ := f5 h2
    rw [if_pos g1, hw3, if_pos g2, if_pos g3, if_neg (fun h3 => hle ⟨h2, h3⟩), hrm]
    simp only [Option.bind_some]
    rw [e1, e2, e3, e4]
  · rw [if_neg (f6 h2), hrm]
    simp only [Option.bind_some]
    rw [e1, e2, e3, e4]
theorem stuck_l0 {p : List ByteArray} (h : planG p = true) (b : ByteArray) (hb : b.size ≤ 2000000) : ∀ d i (R : Box) (C t l lo ri : Int), i + d = b.size → EndsAt p.length (wdP p) i R t l lo ri → 0 ≤ C → C ≤ 36 * (i : Int) →
    Ev (fun n => L4.spec_l12Stuck.l0 n p b t l lo ri C (i : Int)) (decide (2 ≤ b.size) && stuckR (boxesP p) (cutB (clP p)) b d i R C) := by
  have f := planFlat h
  have hfew := f.few
  have hR := plan_roomsX h
  intro d
  induction d with
  | zero => exact fun i R C t l lo ri hi e h0 h1 => stuck_end h b hb i (by omega) R C t l lo ri e h0 h1
  | succ d ih =>
    intro i R C t l lo ri hi e h0 h1
    have hib : i < b.size := by omega
    by_cases hin : 0 ≤ bt b (i : Int) - 97 ∧ bt b (i : Int) - 97 < ((boxesP p).length : Int)
    · by_cases hle : 0 < i ∧ bt b (i : Int) ≤ bt b ((i : Int) - 1)
      · rw [stuckR_no (by rw [decide_eq_true hle.1, decide_eq_true hle.2]; simp), Bool.and_false]
        exact Ev.now fun k => l0_low hR hfew b i hib hin hle.1 hb hle.2 k t l lo ri C
      · have hkl : (bt b (i : Int) - 97).toNat < (boxesP p).length := by omega
        have hrm := plan_roomX h _ hkl
        rw [Int.toNat_of_nonneg hin.1] at hrm
        have hBF := f.fl _ (List.getElem_mem hkl)
        have hbat : boxAt (boxesP p) (bt b (i : Int) - 97) = (boxesP p)[(bt b (i : Int) - 97).toNat] := by unfold boxAt; rw [List.getD_eq_getElem?_getD, List.getElem?_eq_getElem hkl]; rfl
        have hcond : (decide (0 ≤ bt b (i : Int) - 97 ∧ bt b (i : Int) - 97 < (boxesP p).length) && !(decide (0 < i) && decide (bt b (i : Int) ≤ bt b ((i : Int) - 1)))) = true := by
          rw [decide_eq_true hin, Bool.true_and]
          rw [Bool.not_eq_true', Bool.and_eq_false_iff]
          by_cases h2 : 0 < i
          · right; exact decide_eq_false (fun h3 => hle ⟨h2, h3⟩)
          · left; exact decide_eq_false h2
        rw [stuckR_yes hcond, hbat]
        have hBI := hBF.in_ f.high.2 f.wide.2
        have hnext := ih (i + 1) _ (C + areaB (boxesP p)[(bt b (i : Int) - 97).toNat]) _ _ _ _ (by omega) (ends_more e hBF) (by omega) (by push_cast; omega)
        exact hnext.step fun k => l0_more hR hfew b i hib hin hb hle hBF f.high.2 f.wide.2 hrm k t l lo ri C h0 h1
    · rw [stuckR_no (by rw [decide_eq_false hin]; simp), Bool.and_false]
      exact Ev.now fun k => l0_out hR hfew b i hib hin k t l lo ri C
theorem stuck_f {p : List ByteArray} (h : planG p = true) (b : ByteArray) (hb : b.size ≤ 2000000) : Ev (fun n => L4.spec_l12Stuck.f n p b) (stuckByP (clP p) (boxesP p) b) := by
  have t := planTG h
  have hhi := t.high
  have hlen := t.len
  have hs := t.size 0 (by omega)
  have := stuck_l0 h b hb b.size 0 (0, 0, 0, 0) 0 (p.length : Int) (wdP p : Int) (-1) (-1) (by omega) (by unfold EndsAt; rw [if_pos rfl]; exact ⟨rfl, rfl, rfl, rfl⟩) (Int.le_refl _) (by omega)
  have hv : (decide (2 ≤ b.size) && stuckR (boxesP p) (cutB (clP p)) b b.size 0 (0, 0, 0, 0) 0) = stuckByP (clP p) (boxesP p) b := by
    unfold stuckByP
    by_cases h2 : b.size < 2
    · rw [if_pos h2, decide_eq_false (by omega), Bool.false_and]
    · rw [if_neg h2, decide_eq_true (by omega), Bool.true_and]
  rw [hv] at this
  refine this.same fun k => ?_
  unfold L4.spec_l12Stuck.f
  rw [if_pos (by omega), show (rdOf ByteArray.empty p 0).size = wdP p from hs]
  rfl
end Go.Proofs.Ytdhnjecbdclmaaa
