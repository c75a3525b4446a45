/- Texts of this claim's, joined by a program: DCodeRow, DDraw3, DPlanRooms, DWaysP. -/
import Derived.Test.YtdhnjecbdclmaaaKDPlanDraw
import Derived.Test.YtdhnjecbdclmaaaKDSpecTextM
import Derived.Test.YtdhnjecbdclmaaaKDFlat
section
namespace Go.Proofs.Ytdhnjecbdclmaaa
open Go.RowKit Go.Shelf Go.Proofs.YtdhnjecbdclmaaaW.PrintWords Go.Proofs.YtdhnjecbdclmaaaW.PrintMore
set_option linter.unusedVariables false
def CodeRow (w : World) (a0 : Option Addr) (len0 cap0 : Nat) (z0 : List Int) : Prop := (a0 = none ∧ len0 = 0 ∧ cap0 = 0 ∧ z0 = []) ∨ ∃ x, a0 = some x ∧ len0 ≤ cap0 ∧ cap0 ≤ maxLen ∧ z0.length = cap0 ∧ (∀ i, i < z0.length → w.cell? (x.add i) = some (.int .u8 (z0.getD i 0))) ∧ ∀ n ∈ z0, (Lit.int .u8 n).wf = true
theorem CodeRow.code {w : World} {a0 : Option Addr} {len0 cap0 : Nat} {z0 : List Int} (h : CodeRow w a0 len0 cap0 z0) : ∃ bs, Code0 w a0 len0 cap0 bs := by
  obtain ⟨l0, rfl, hr0, hm0, hw0, hc0⟩ := ReadsInt.ofRowC h
  refine ⟨l0, hc0, Kd.C_of_reads (d := (0 : Int)) (h1 := fun _ => rfl) hr0, fun x hx => ?_⟩
  have := hw0 x hx
  unfold Lit.wf at this
  rw [Bool.and_eq_true, decide_eq_true_eq, decide_eq_true_eq] at this
  exact this
end Go.Proofs.Ytdhnjecbdclmaaa
end
section
namespace Go.Proofs.Ytdhnjecbdclmaaa
open Go.RowKit Go.Shelf Go.Proofs.YtdhnjecbdclmaaaW.PrintWords Go.Proofs.YtdhnjecbdclmaaaW.PrintMore
set_option linter.unusedVariables false
theorem DrawCutDeep_any (A : Option Addr) (n cap : Nat) (bs : List Int) (w : World) (h : Code0 w A n cap bs) :
    Calls Try.prog 43 #[.slice A n cap] w fun e w' => DrewOne w w' e := by
  have H := Aside0.mk h
  clear h
  go_enter Try.func43, Try.ntmps43
  go_wp2_with fail
  refine (l91One_any A n cap bs _ H.out).mono ?_
  rintro e w1 ⟨q, A2, c2, rfl, HD⟩
  go_wp2_with fail
  go_ret
  exact ⟨q, A2, c2, rfl, HD⟩
end Go.Proofs.Ytdhnjecbdclmaaa
end
section
namespace Go.Proofs.Ytdhnjecbdclmaaa
open Go.RowKit Go.Shelf Go.Proofs.YtdhnjecbdclmaaaW.PrintWords Go.Proofs.YtdhnjecbdclmaaaW.PrintMore
set_option linter.unusedVariables false
set_option linter.unusedSimpArgs false
def roomsP (p : List ByteArray) : Int × Bool := if planG p then (((boxesP p).length : Int), true) else (0, false)
set_option maxHeartbeats 4000000 in
theorem planRooms_any (A : Option Addr) (cap : Nat) (p : List ByteArray) (hp : SmallP p) (w : World) (hr0 : Kd.C Kd.string w A p.length p) (hc0 : p.length ≤ cap) :
    Calls Try.prog 46 #[.slice A p.length cap] w fun e w' => e = .returned (.tuple #[.int .i64 (roomsP p).1, .bool (roomsP p).2]) ∧ Below w.heap.size w w' := by
  have HFL := floorOf_any A cap p hp.1 hp.2 w hr0 hc0
  clear hr0
  go_enter Try.func46, Try.ntmps46
  go_wp2_with fail
  refine HFL.mono ?_
  rintro e w1 ⟨hb1, ⟨hpl, fb, base, rfl, hbase, hfl⟩ | ⟨hpl, o, rfl⟩⟩
  · have HB1 := Aside0.mk hb1
    obtain ⟨g, rb, RA, rc, h1, h2, h3, h4, h5, h6⟩ := hfl.reads
    have HV : Aside0 (roomsP p = (((boxesP p).length : Int), true)) := ⟨by unfold roomsP; rw [if_pos hpl]⟩
    clear hb1 hpl hfl h5 h6
    go_wp2_with fail
    go_ret2
    exact ⟨by rw [HV.out]; rfl, HB1.out⟩
  · have HB1 := Aside0.mk hb1
    have HV : Aside0 (roomsP p = (0, false)) := ⟨by unfold roomsP; rw [hpl]; rfl⟩
    clear hb1 hpl
    go_wp2_with fail
    go_ret2
    exact ⟨by rw [HV.out]; rfl, HB1.out⟩
end Go.Proofs.Ytdhnjecbdclmaaa
end
section
namespace Go.Proofs.Ytdhnjecbdclmaaa
open Go.RowKit Go.Shelf Go.Proofs.YtdhnjecbdclmaaaW.PrintWords Go.Proofs.YtdhnjecbdclmaaaW.PrintMore
set_option linter.unusedVariables false
def roomsN (boxes : List Box) (r c ph pw : Nat) : Nat := (listL boxes (natB r c ph pw) boxes.length).length
theorem rooms_pos {cl : Nat → Nat → Int} {boxes : List Box} {h wd r c ph pw : Nat} (f : Flat cl boxes h wd) (hw : Whole cl h wd r c ph pw) : 1 ≤ roomsN boxes r c ph pw := by
  have hs := hw.some
  have := (listL_iff f hw (cl r c)).2 ⟨r, c, ⟨⟨by omega, by omega⟩, by omega, by omega⟩, rfl⟩
  exact List.length_pos_of_mem this
theorem listL_split {boxes : List Box} {b b1 b2 : Box} (hs : ∀ k (hk : k < boxes.length), (bothB b boxes[k] = b ↔ bothB b1 boxes[k] = b1 ∨ bothB b2 boxes[k] = b2) ∧ ¬ (bothB b1 boxes[k] = b1 ∧ bothB b2 boxes[k] = b2)) :
    ∀ n, n ≤ boxes.length → (listL boxes b n).length = (listL boxes b1 n).length + (listL boxes b2 n).length := by
  intro n
  induction n with
  | zero => intro _; rfl
  | succ n ih =>
    intro hn
    have ih := ih (by omega)
    obtain ⟨e1, e2⟩ := hs n (by omega)
    unfold listL
    rw [List.length_append, List.length_append, List.length_append, List.getD_eq_getElem?_getD, List.getElem?_eq_getElem (by omega), Option.getD_some]
    by_cases h1 : bothB b1 boxes[n] = b1
    · by_cases h2 : bothB b2 boxes[n] = b2
      · exact absurd ⟨h1, h2⟩ e2
      · rw [if_pos (e1.2 (.inl h1)), if_pos h1, if_neg h2]; simp; omega
    · by_cases h2 : bothB b2 boxes[n] = b2
      · rw [if_pos (e1.2 (.inr h2)), if_neg h1, if_pos h2]; simp; omega
      · rw [if_neg (fun h => (e1.1 h).elim h1 h2), if_neg h1, if_neg h2]; simp; omega
theorem rooms_split {cl : Nat → Nat → Int} {boxes : List Box} {h wd r c ph pw : Nat} (f : Flat cl boxes h wd) (hw : Whole cl h wd r c ph pw) {x : Bool × Nat} (hx : x ∈ cutsL cl r c ph pw) :
    roomsN boxes r c ph pw = roomsN boxes (oneR r c ph pw x).1 (oneR r c ph pw x).2.1 (oneR r c ph pw x).2.2.1 (oneR r c ph pw x).2.2.2 + roomsN boxes (twoR r c ph pw x).1 (twoR r c ph pw x).2.1 (twoR r c ph pw x).2.2.1 (twoR r c ph pw x).2.2.2 := by
  obtain ⟨w1, w2⟩ := whole_parts f hw hx
  have hin := cutsL_in hx
  refine listL_split (fun k hk => ?_) _ (Nat.le_refl _)
  have q0 := room_within f hw k hk
  have q1 := room_within f w1 k hk
  have q2 := room_within f w2 k hk
  rw [q0, q1, q2]
  obtain ⟨b, l⟩ := x
  cases b with
  | false =>
    simp only [Bool.false_eq_true, if_false] at hin
    simp only [oneR, twoR, Bool.false_eq_true, if_false]
    constructor
    · constructor
      · rintro ⟨i, j, ⟨a1, a2, a3⟩, hc⟩
        by_cases hj : j < l
        · exact .inl ⟨i, j, ⟨a1, a2, by omega⟩, hc⟩
        · exact .inr ⟨i, j, ⟨a1, by omega, by omega⟩, hc⟩
      · rintro (⟨i, j, ⟨a1, a2, a3⟩, hc⟩ | ⟨i, j, ⟨a1, a2, a3⟩, hc⟩)
        · exact ⟨i, j, ⟨a1, a2, by omega⟩, hc⟩
        · exact ⟨i, j, ⟨a1, by omega, by omega⟩, hc⟩
    · rintro ⟨⟨i, j, ⟨a1, a2, a3⟩, hc⟩, ⟨i', j', ⟨b1, b2, b3⟩, hc'⟩⟩
      have := side_up f hw ⟨hin.1, hin.2.1⟩ hin.2.2 (i := i) (j := j) (i' := i') (j' := j') ⟨a1, a2, by omega⟩ ⟨b1, by omega, by omega⟩ (by rw [hc, hc'])
      omega
  | true =>
    simp only [if_true] at hin
    simp only [oneR, twoR, if_true]
    constructor
    · constructor
      · rintro ⟨i, j, ⟨⟨a1, a2⟩, a3⟩, hc⟩
        by_cases hj : i < l
        · exact .inl ⟨i, j, ⟨⟨a1, by omega⟩, a3⟩, hc⟩
        · exact .inr ⟨i, j, ⟨⟨by omega, by omega⟩, a3⟩, hc⟩
      · rintro (⟨i, j, ⟨⟨a1, a2⟩, a3⟩, hc⟩ | ⟨i, j, ⟨⟨a1, a2⟩, a3⟩, hc⟩)
        · exact ⟨i, j, ⟨⟨a1, by omega⟩, a3⟩, hc⟩
        · exact ⟨i, j, ⟨⟨by omega, by omega⟩, a3⟩, hc⟩
    · rintro ⟨⟨i, j, ⟨⟨a1, a2⟩, a3⟩, hc⟩, ⟨i', j', ⟨⟨b1, b2⟩, b3⟩, hc'⟩⟩
      have := side_lv f hw ⟨hin.1, hin.2.1⟩ hin.2.2 (i := i) (j := j) (i' := i') (j' := j') ⟨⟨a1, by omega⟩, a3⟩ ⟨⟨by omega, by omega⟩, b3⟩ (by rw [hc, hc'])
      omega
def waysN (cl : Nat → Nat → Int) (boxes : List Box) : Nat → Rc → Nat
  | 0, _ => 0
  | n + 1, (r, c, ph, pw) => if (listL boxes (natB r c ph pw) boxes.length).length = 1 then 1 else ((cutsL cl r c ph pw).map fun x => waysN cl boxes n (oneR r c ph pw x) * waysN cl boxes n (twoR r c ph pw x)).sum
theorem linesL_len (cl : Nat → Nat → Int) (level : Bool) (lo from_ long n : Nat) : (linesL cl level lo from_ long n).length ≤ n := by
  induction n with
  | zero => exact Nat.le_refl _
  | succ n ih =>
    unfold linesL
    rw [List.length_append]
    split <;> simp <;> omega
theorem cutsL_len (cl : Nat → Nat → Int) (r c ph pw : Nat) : (cutsL cl r c ph pw).length ≤ (pw - 1) + (ph - 1) := by
  unfold cutsL
  rw [List.length_append]
  have := linesL_len cl false c r ph (pw - 1)
  have := linesL_len cl true r c pw (ph - 1)
  omega
end Go.Proofs.Ytdhnjecbdclmaaa
end
