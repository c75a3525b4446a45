/- Texts of this claim's, joined by a program: YCodeRow, YDraw3, YWaysP, YRoundReg. -/
import Derived.Test.YtdhnjecbdclmaaaKYPlanDraw
import Derived.Test.YtdhnjecbdclmaaaKYFlat
import Derived.Test.YtdhnjecbdclmaaaKYBase
import Derived.Deep.RegionHeld3
section
namespace Go.Proofs.Ytdhnjecbdclmaaa
open Go.RowKit Go.Shelf Go.Proofs.YtdhnjecbdclmaaaW.PrintWords Go.Proofs.YtdhnjecbdclmaaaW.PrintMore
set_option linter.unusedVariables false
def CodeRow (w : World) (a0 : Option Addr) (len0 cap0 : Nat) (z0 : List Int) : Prop := (a0 = none ∧ len0 = 0 ∧ cap0 = 0 ∧ z0 = []) ∨ ∃ x, a0 = some x ∧ len0 ≤ cap0 ∧ cap0 ≤ maxLen ∧ z0.length = cap0 ∧ (∀ i, i < z0.length → w.cell? (x.add i) = some (.int .u8 (z0.getD i 0))) ∧ ∀ n ∈ z0, (Lit.int .u8 n).wf = true
theorem CodeRow.code {w : World} {a0 : Option Addr} {len0 cap0 : Nat} {z0 : List Int} (h : CodeRow w a0 len0 cap0 z0) : ∃ bs, Code0 w a0 len0 cap0 bs := by
  obtain ⟨l0, rfl, hr0, hm0, hw0, hc0⟩ := ReadsInt.ofRowC h
  refine ⟨l0, hc0, Kd.C_of_reads (d := (0 : Int)) (h1 := fun _ => rfl) hr0, fun x hx => ?_⟩
  have := hw0 x hx
  unfold Lit.wf at this
  rw [Bool.and_eq_true, decide_eq_true_eq, decide_eq_true_eq] at this
  exact this
end Go.Proofs.Ytdhnjecbdclmaaa
end
section
namespace Go.Proofs.Ytdhnjecbdclmaaa
open Go.RowKit Go.Shelf Go.Proofs.YtdhnjecbdclmaaaW.PrintWords Go.Proofs.YtdhnjecbdclmaaaW.PrintMore
set_option linter.unusedVariables false
theorem DrawCutWays_any (A : Option Addr) (n cap : Nat) (bs : List Int) (w : World) (h : Code0 w A n cap bs) :
    Calls Try.prog 77 #[.slice A n cap] w fun e w' => DrewOne w w' e := by
  have H := Aside0.mk h
  clear h
  go_enter Try.func77, Try.ntmps77
  go_wp2_with fail
  refine (l91One_any A n cap bs _ H.out).mono ?_
  rintro e w1 ⟨q, A2, c2, rfl, HD⟩
  go_wp2_with fail
  go_ret
  exact ⟨q, A2, c2, rfl, HD⟩
end Go.Proofs.Ytdhnjecbdclmaaa
end
section
namespace Go.Proofs.Ytdhnjecbdclmaaa
open Go.RowKit Go.Shelf Go.Proofs.YtdhnjecbdclmaaaW.PrintWords Go.Proofs.YtdhnjecbdclmaaaW.PrintMore
set_option linter.unusedVariables false
def roomsN (boxes : List Box) (r c ph pw : Nat) : Nat := (listL boxes (natB r c ph pw) boxes.length).length
theorem rooms_pos {cl : Nat → Nat → Int} {boxes : List Box} {h wd r c ph pw : Nat} (f : Flat cl boxes h wd) (hw : Whole cl h wd r c ph pw) : 1 ≤ roomsN boxes r c ph pw := by
  have hs := hw.some
  have := (listL_iff f hw (cl r c)).2 ⟨r, c, ⟨⟨by omega, by omega⟩, by omega, by omega⟩, rfl⟩
  exact List.length_pos_of_mem this
theorem listL_split {boxes : List Box} {b b1 b2 : Box} (hs : ∀ k (hk : k < boxes.length), (bothB b boxes[k] = b ↔ bothB b1 boxes[k] = b1 ∨ bothB b2 boxes[k] = b2) ∧ ¬ (bothB b1 boxes[k] = b1 ∧ bothB b2 boxes[k] = b2)) :
    ∀ n, n ≤ boxes.length → (listL boxes b n).length = (listL boxes b1 n).length + (listL boxes b2 n).length := by
  intro n
  induction n with
  | zero => intro _; rfl
  | succ n ih =>
    intro hn
    have ih := ih (by omega)
    obtain ⟨e1, e2⟩ := hs n (by omega)
    unfold listL
    rw [List.length_append, List.length_append, List.length_append, List.getD_eq_getElem?_getD, List.getElem?_eq_getElem (by omega), Option.getD_some]
    by_cases h1 : bothB b1 boxes[n] = b1
    · by_cases h2 : bothB b2 boxes[n] = b2
      · exact absurd ⟨h1, h2⟩ e2
      · rw [if_pos (e1.2 (.inl h1)), if_pos h1, if_neg h2]; simp; omega
    · by_cases h2 : bothB b2 boxes[n] = b2
      · rw [if_pos (e1.2 (.inr h2)), if_neg h1, if_pos h2]; simp; omega
      · rw [if_neg (fun h => (e1.1 h).elim h1 h2), if_neg h1, if_neg h2]; simp; omega
theorem rooms_split {cl : Nat → Nat → Int} {boxes : List Box} {h wd r c ph pw : Nat} (f : Flat cl boxes h wd) (hw : Whole cl h wd r c ph pw) {x : Bool × Nat} (hx : x ∈ cutsL cl r c ph pw) :
    roomsN boxes r c ph pw = roomsN boxes (oneR r c ph pw x).1 (oneR r c ph pw x).2.1 (oneR r c ph pw x).2.2.1 (oneR r c ph pw x).2.2.2 + roomsN boxes (twoR r c ph pw x).1 (twoR r c ph pw x).2.1 (twoR r c ph pw x).2.2.1 (twoR r c ph pw x).2.2.2 := by
  obtain ⟨w1, w2⟩ := whole_parts f hw hx
  have hin := cutsL_in hx
  refine listL_split (fun k hk => ?_) _ (Nat.le_refl _)
  have q0 := room_within f hw k hk
  have q1 := room_within f w1 k hk
  have q2 := room_within f w2 k hk
  rw [q0, q1, q2]
  obtain ⟨b, l⟩ := x
  cases b with
  | false =>
    simp only [Bool.false_eq_true, if_false] at hin
    simp only [oneR, twoR, Bool.false_eq_true, if_false]
    constructor
    · constructor
      · rintro ⟨i, j, ⟨a1, a2, a3⟩, hc⟩
        by_cases hj : j < l
        · exact .inl ⟨i, j, ⟨a1, a2, by omega⟩, hc⟩
        · exact .inr ⟨i, j, ⟨a1, by omega, by omega⟩, hc⟩
      · rintro (⟨i, j, ⟨a1, a2, a3⟩, hc⟩ | ⟨i, j, ⟨a1, a2, a3⟩, hc⟩)
        · exact ⟨i, j, ⟨a1, a2, by omega⟩, hc⟩
        · exact ⟨i, j, ⟨a1, by omega, by omega⟩, hc⟩
    · rintro ⟨⟨i, j, ⟨a1, a2, a3⟩, hc⟩, ⟨i', j', ⟨b1, b2, b3⟩, hc'⟩⟩
      have := side_up f hw ⟨hin.1, hin.2.1⟩ hin.2.2 (i := i) (j := j) (i' := i') (j' := j') ⟨a1, a2, by omega⟩ ⟨b1, by omega, by omega⟩ (by rw [hc, hc'])
      omega
  | true =>
    simp only [if_true] at hin
    simp only [oneR, twoR, if_true]
    constructor
    · constructor
      · rintro ⟨i, j, ⟨⟨a1, a2⟩, a3⟩, hc⟩
        by_cases hj : i < l
        · exact .inl ⟨i, j, ⟨⟨a1, by omega⟩, a3⟩, hc⟩
        · exact .inr ⟨i, j, ⟨⟨by omega, by omega⟩, a3⟩, hc⟩
      · rintro (⟨i, j, ⟨⟨a1, a2⟩, a3⟩, hc⟩ | ⟨i, j, ⟨⟨a1, a2⟩, a3⟩, hc⟩)
        · exact ⟨i, j, ⟨⟨a1, by omega⟩, a3⟩, hc⟩
        · exact ⟨i, j, ⟨⟨by omega, by omega⟩, a3⟩, hc⟩
    · rintro ⟨⟨i, j, ⟨⟨a1, a2⟩, a3⟩, hc⟩, ⟨i', j', ⟨⟨b1, b2⟩, b3⟩, hc'⟩⟩
      have := side_lv f hw ⟨hin.1, hin.2.1⟩ hin.2.2 (i := i) (j := j) (i' := i') (j' := j') ⟨⟨a1, by omega⟩, a3⟩ ⟨⟨by omega, by omega⟩, b3⟩ (by rw [hc, hc'])
      omega
theorem rooms_few {cl : Nat → Nat → Int} {boxes : List Box} {h wd r c ph pw : Nat} (f : Flat cl boxes h wd) : roomsN boxes r c ph pw ≤ 9 := Nat.le_trans (listL_len _ _ _) f.few
def waysN (cl : Nat → Nat → Int) (boxes : List Box) : Nat → Rc → Nat
  | 0, _ => 0
  | n + 1, (r, c, ph, pw) => if (listL boxes (natB r c ph pw) boxes.length).length = 1 then 1 else ((cutsL cl r c ph pw).map fun x => waysN cl boxes n (oneR r c ph pw x) * waysN cl boxes n (twoR r c ph pw x)).sum
theorem linesL_len (cl : Nat → Nat → Int) (level : Bool) (lo from_ long n : Nat) : (linesL cl level lo from_ long n).length ≤ n := by
  induction n with
  | zero => exact Nat.le_refl _
  | succ n ih =>
    unfold linesL
    rw [List.length_append]
    split <;> simp <;> omega
theorem cutsL_len (cl : Nat → Nat → Int) (r c ph pw : Nat) : (cutsL cl r c ph pw).length ≤ (pw - 1) + (ph - 1) := by
  unfold cutsL
  rw [List.length_append]
  have := linesL_len cl false c r ph (pw - 1)
  have := linesL_len cl true r c pw (ph - 1)
  omega
theorem sumB_le {α : Type} (l : List α) (g : α → Nat) (B : Nat) (h : ∀ x ∈ l, g x ≤ B) : (l.map g).sum ≤ l.length * B := by
  induction l with
  | nil => simp
  | cons a l ih =>
    rw [List.map_cons, List.sum_cons, List.length_cons, Nat.succ_mul]
    have := ih (fun x hx => h x (List.mem_cons_of_mem _ hx))
    have := h a List.mem_cons_self
    omega
theorem ways_bound {cl : Nat → Nat → Int} {boxes : List Box} {h wd : Nat} (f : Flat cl boxes h wd) : ∀ (n r c ph pw : Nat), Whole cl h wd r c ph pw → waysN cl boxes n (r, c, ph, pw) ≤ 10 ^ (roomsN boxes r c ph pw - 1) ∧
    ∀ x ∈ cutsL cl r c ph pw, waysN cl boxes n (oneR r c ph pw x) * waysN cl boxes n (twoR r c ph pw x) ≤ 10 ^ (roomsN boxes r c ph pw - 2) := by
  intro n
  induction n with
  | zero => intro r c ph pw _; exact ⟨Nat.zero_le _, fun x _ => by simp [waysN]⟩
  | succ n ih =>
    intro r c ph pw hw
    have step : ∀ m, (∀ r c ph pw, Whole cl h wd r c ph pw → waysN cl boxes m (r, c, ph, pw) ≤ 10 ^ (roomsN boxes r c ph pw - 1)) → ∀ r c ph pw, Whole cl h wd r c ph pw → ∀ x ∈ cutsL cl r c ph pw, waysN cl boxes m (oneR r c ph pw x) * waysN cl boxes m (twoR r c ph pw x) ≤ 10 ^ (roomsN boxes r c ph pw - 2) := by
      intro m hm r c ph pw hw x hx
      obtain ⟨w1, w2⟩ := whole_parts f hw hx
      have e := rooms_split f hw hx
      have p1 := rooms_pos f w1
      have p2 := rooms_pos f w2
      have a1 : waysN cl boxes m (oneR r c ph pw x) ≤ 10 ^ (roomsN boxes (oneR r c ph pw x).1 (oneR r c ph pw x).2.1 (oneR r c ph pw x).2.2.1 (oneR r c ph pw x).2.2.2 - 1) := hm _ _ _ _ w1
      have a2 : waysN cl boxes m (twoR r c ph pw x) ≤ 10 ^ (roomsN boxes (twoR r c ph pw x).1 (twoR r c ph pw x).2.1 (twoR r c ph pw x).2.2.1 (twoR r c ph pw x).2.2.2 - 1) := hm _ _ _ _ w2
      refine Nat.le_trans (Nat.mul_le_mul a1 a2) ?_
      rw [← Nat.pow_add]
      exact Nat.pow_le_pow_right (by omega) (by omega)
    have first : ∀ r c ph pw, Whole cl h wd r c ph pw → waysN cl boxes (n + 1) (r, c, ph, pw) ≤ 10 ^ (roomsN boxes r c ph pw - 1) := by
      intro r c ph pw hw
      unfold waysN
      split
      · exact Nat.one_le_pow _ _ (by omega)
      · rename_i hne
        have hpos := rooms_pos f hw
        have h2 : 2 ≤ roomsN boxes r c ph pw := by unfold roomsN at hpos ⊢; omega
        have hl := cutsL_len cl r c ph pw
        have hh := f.high
        have hwd := f.wide
        have hrow := hw.row
        have hcol := hw.col
        refine Nat.le_trans (sumB_le _ _ _ (fun x hx => (ih r c ph pw hw).2 x hx)) ?_
        rw [show roomsN boxes r c ph pw - 1 = (roomsN boxes r c ph pw - 2) + 1 by omega, Nat.pow_succ, Nat.mul_comm]
        exact Nat.mul_le_mul_left _ (by omega)
    exact ⟨first r c ph pw hw, step (n + 1) first r c ph pw hw⟩
theorem ways_small {cl : Nat → Nat → Int} {boxes : List Box} {h wd : Nat} (f : Flat cl boxes h wd) (n r c ph pw : Nat) (hw : Whole cl h wd r c ph pw) : waysN cl boxes n (r, c, ph, pw) ≤ 100000000 :=
  Nat.le_trans (ways_bound f n r c ph pw hw).1 (Nat.le_trans (Nat.pow_le_pow_right (by omega) (show roomsN boxes r c ph pw - 1 ≤ 8 by have := rooms_few (r := r) (c := c) (ph := ph) (pw := pw) f; omega)) (by decide))
def waysSum (cl : Nat → Nat → Int) (boxes : List Box) (n r c ph pw : Nat) (pre : List (Bool × Nat)) : Nat := (pre.map fun x => waysN cl boxes n (oneR r c ph pw x) * waysN cl boxes n (twoR r c ph pw x)).sum
theorem waysSum_snoc (cl : Nat → Nat → Int) (boxes : List Box) (n r c ph pw : Nat) (pre : List (Bool × Nat)) (x : Bool × Nat) : waysSum cl boxes n r c ph pw (pre ++ [x]) = waysSum cl boxes n r c ph pw pre + waysN cl boxes n (oneR r c ph pw x) * waysN cl boxes n (twoR r c ph pw x) := by
  unfold waysSum
  rw [List.map_append, List.sum_append]; simp
theorem waysSum_pre {cl : Nat → Nat → Int} {boxes : List Box} {h wd : Nat} (f : Flat cl boxes h wd) (n r c ph pw : Nat) (hw : Whole cl h wd r c ph pw) {pre : List (Bool × Nat)} (hp : pre <+: cutsL cl r c ph pw) : waysSum cl boxes n r c ph pw pre ≤ 1000000000 := by
  have hb := (ways_bound f n r c ph pw hw).2
  have hl := cutsL_len cl r c ph pw
  have hh := f.high
  have hwd := f.wide
  have hrow := hw.row
  have hcol := hw.col
  have h8 : 10 ^ (roomsN boxes r c ph pw - 2) ≤ 100000000 := Nat.le_trans (Nat.pow_le_pow_right (by omega) (show roomsN boxes r c ph pw - 2 ≤ 8 by have := rooms_few (r := r) (c := c) (ph := ph) (pw := pw) f; omega)) (by decide)
  refine Nat.le_trans (sumB_le _ _ 100000000 (fun x hx => Nat.le_trans (hb x (hp.subset hx)) h8)) ?_
  have := hp.length_le
  have : pre.length ≤ 10 := by omega
  exact Nat.le_trans (Nat.mul_le_mul_right _ this) (by decide)
end Go.Proofs.Ytdhnjecbdclmaaa
end
section
namespace Go.Proofs.Ytdhnjecbdclmaaa
open Go.RowKit
set_option linter.unusedVariables false
theorem Wide.rows {F : Fence} {n : Nat} {P : Program} {row : String} {args : Array Value} {w : World} {R : Value → World → Prop} (h : Wide F) (c : Rows P row args w R) : RowsIn F n P row args w R := by
  rcases h with rfl | ⟨l, rfl⟩
  · exact fun c1 cs _ => let ⟨v, w', r, s⟩ := c c1 cs; ⟨v, w', r, stepsIn_wide.2 s⟩
  · exact fun c1 cs _ => let ⟨v, w', r, s⟩ := c c1 cs; ⟨v, w', r, stepsIn_wide.2 s⟩
section
variable {F : Fence} {n : Nat} {P : Program} {ops : Array Oper} {md : Region.Mode} {Q : Exit → Act → World → Prop}
theorem wpOpIn_of_wpOp (hF : Wide F) (hnd : noDefer ops = true) (hLO : ¬ LetsOut Q) {i : Nat} {K K' : Act → World → Prop} (h : ∀ a w, K a w → K' a w) {a : Act} {w : World} (hh : wpOp P ops Q i K a w) : wpOpIn F n P ops Q i K' a w := by
  unfold wpOp at hh
  unfold wpOpIn
  split
  · rename_i ho; simp only [ho] at hh; exact h _ _ hh
  · rename_i o ho
    simp only [ho] at hh
    split
    · rename_i hw
      simp only [hw, if_true] at hh
      rcases hh with hh | hh
      · refine ⟨fun f _ => hF.fn f, ?_⟩
        rw [Oper.semAt_eq _ _ _ (noDefer_spec hnd ho)]
        unfold Oper.wp at hh
        generalize (execOp a.eval o).run P w = r at *
        cases r with
        | ok m w' =>
          cases m with
          | value v => exact h _ _ hh
          | skip => exact h _ _ hh
          | defer d => exact h _ _ hh
          | enter f args =>
            have hc : Calls P f args w' _ := hh
            exact ⟨hF.depth, (hF.calls hc).mono fun e w'' he => by
              cases e with
              | returned v => exact h _ _ he
              | panicked ch => exact he
              | outgrown => exact he⟩
          | row row args =>
            have hc : Rows P row args w' _ := hh
            exact ⟨hF.depth, (hF.rows hc).mono fun v w'' he => h _ _ he⟩
          | _ => exact hh.elim
        | halt x w' =>
          cases x with
          | panic v => exact hh
          | _ => exact hh.elim
      · exact absurd hh.2 hLO
    · rename_i hw
      simp only [hw] at hh
      exact ⟨fun f _ => hF.fn f, h _ _ hh⟩
theorem wpAnyIn_of_wpAny (hF : Wide F) (hnd : noDefer ops = true) (hLO : ¬ LetsOut Q) : ∀ (fuel : Nat) (listed : Array Bool) (a : Act) (w : World), wpAny P md ops Q fuel listed a w → wpAnyIn F n P md ops Q fuel listed a w
  | 0, _, _, _, h => h
  | fuel + 1, _, _, _, h => ⟨h.1, fun i hi => wpOpIn_of_wpOp hF hnd hLO (fun a' w' h' => wpAnyIn_of_wpAny hF hnd hLO fuel _ a' w' h') (h.2 i hi)⟩
theorem wpIn_region_held_drew (hF : Wide F) {S : World → Prop} {id : Nat} {a : Act} {w : World} (hm : P.follows .mixedOrders = true) (hnd : noDefer ops = true) (hLO : ¬ LetsOut Q) (hS : S w.drew)
    (h : S w.drew → wpAnyH P .any ops Q S ops.size (Array.replicate ops.size false) a w.drew) : (Code.region id ops true).wpIn F n P Q a w :=
  wpIn_region_any hm (wpAnyIn_of_wpAny hF hnd hLO _ _ _ _ (wpAny_of_held _ _ _ _ (h hS)))
end
end Go.Proofs.Ytdhnjecbdclmaaa
end
