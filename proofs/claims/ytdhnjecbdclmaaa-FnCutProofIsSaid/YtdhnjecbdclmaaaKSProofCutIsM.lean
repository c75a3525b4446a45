/- Texts of this claim's, joined by a program: SProofCutIs, SWaysP. -/
import Derived.Test.YtdhnjecbdclmaaaKSSpecIsCut
import Derived.Test.YtdhnjecbdclmaaaKSFlat
section
namespace Go.Proofs.Ytdhnjecbdclmaaa
open Go.RowKit Go.Shelf Go.Proofs.YtdhnjecbdclmaaaW.PrintWords Go.Proofs.YtdhnjecbdclmaaaW.PrintMore
set_option linter.unusedVariables false
set_option linter.unusedSimpArgs false
theorem preB_iff (s w : ByteArray) : preB s w = true ↔ ∃ t : List UInt8, s.data.toList = w.data.toList ++ t := by
  unfold preB
  rw [Lib.hasPrefix_raw]
  unfold Lib.hasPrefix
  rw [List.isPrefixOf_iff_prefix]
  exact ⟨fun ⟨t, h⟩ => ⟨t, h.symm⟩, fun ⟨t, h⟩ => ⟨t, h.symm⟩⟩
theorem restW_data {s w : ByteArray} {t : List UInt8} (h : s.data.toList = w.data.toList ++ t) : (restW s w).data.toList = t := by
  have hp := (preB_iff s w).2 ⟨t, h⟩
  have hp2 := hp
  unfold preB at hp2
  rw [Bool.and_eq_true, decide_eq_true_iff] at hp2
  have hq : Lib.hasPrefix s.data.toList w.data.toList = true := by rw [← Lib.hasPrefix_raw]; exact hp
  unfold restW
  rw [if_pos hp, ← Lib.trimPrefix_hit s w hp2.1 hp2.2]
  show (Lib.trimPrefix _ _).toArray.toList = t
  unfold Lib.trimPrefix
  rw [if_pos hq, h]
  simp
theorem data_inj {a b : ByteArray} (h : a.data.toList = b.data.toList) : a = b := ByteArray.ext (Array.ext' h)
theorem word_eq (s w T : ByteArray) : (s.toList == (w ++ T).toList) = (preB s w && decide (T = restW s w)) := by
  rw [ByteArray.toList_eq, ByteArray.toList_eq, Bool.eq_iff_iff, beq_iff_eq, Bool.and_eq_true, decide_eq_true_iff, preB_iff, Go.Joins.data_append]
  constructor
  · intro h
    exact ⟨⟨_, h⟩, data_inj (restW_data h).symm⟩
  · rintro ⟨⟨t, h⟩, rfl⟩
    rw [restW_data h, h]
theorem stuck_word (s : ByteArray) (h : 6 ≤ s.size) : ((s.extract 0 6).toList = ([115, 116, 117, 99, 107, 32] : List UInt8)) ↔ preB s wStuck = true := by
  unfold preB
  rw [show wStuck.size = 6 from rfl, decide_eq_true h, Bool.true_and, beq_iff_eq]
  exact Iff.of_eq (congrArg _ (by rw [ByteArray.toList_eq]; rfl))
theorem stuck_short (s : ByteArray) (h : ¬ 6 ≤ s.size) : preB s wStuck = false := by
  unfold preB
  rw [show wStuck.size = 6 from rfl, decide_eq_false h, Bool.false_and]
theorem cut_not_stuck {s : ByteArray} (h : preB s wCut = true) : preB s wStuck = false := by
  cases h2 : preB s wStuck with
  | false => rfl
  | true =>
    obtain ⟨t, ht⟩ := (preB_iff _ _).1 h
    obtain ⟨u, hu⟩ := (preB_iff _ _).1 h2
    rw [ht] at hu
    have := congrArg List.head? hu
    exact absurd this (by unfold wCut wStuck; simp)
theorem isJ {p : List ByteArray} (h : planG p = true) (s : ByteArray) (hs : s.size ≤ 2000000) : Ev (fun n => L4.spec_ProofCutIs.j0 n p s false) (0, preB s wStuck && stuckByP (clP p) (boxesP p) (restW s wStuck)) := by
  by_cases h6 : 6 ≤ s.size
  · cases hb : preB s wStuck with
    | true =>
      have hw := (stuck_word s h6).2 hb
      have hr : restW s wStuck = s.extract 6 s.size := by unfold restW; rw [if_pos hb]; rfl
      rw [Bool.true_and, hr]
      have hf := stuck_f h (s.extract 6 s.size) (by rw [ByteArray.size_extract]; omega)
      refine (hf.bind (F := fun n t => some ((0 : Int), t)) (Ev.const _)).step fun k => ?_
      show L4.spec_ProofCutIs.j0 (k + 1) p s false = _
      conv => lhs; rw [L4.spec_ProofCutIs.j0]
      rw [if_neg (by simp), if_neg (by omega), if_pos (by omega), if_pos (by omega), if_pos hw]
    | false =>
      have hw : ¬ (s.extract 0 6).toList = ([115, 116, 117, 99, 107, 32] : List UInt8) := fun e => by rw [(stuck_word s h6).1 e] at hb; cases hb
      rw [Bool.false_and]
      refine Ev.now fun k => ?_
      show L4.spec_ProofCutIs.j0 (k + 1) p s false = _
      rw [L4.spec_ProofCutIs.j0, if_neg (by simp), if_neg (by omega), if_pos (by omega), if_pos (by omega), if_neg hw]
  · rw [stuck_short s h6, Bool.false_and]
    refine Ev.now fun k => ?_
    show L4.spec_ProofCutIs.j0 (k + 1) p s false = _
    rw [L4.spec_ProofCutIs.j0, if_neg (by simp), if_pos (by omega)]
theorem isJ1 (p : List ByteArray) (s : ByteArray) : Ev (fun n => L4.spec_ProofCutIs.j0 n p s true) (1, true) := by
  refine Ev.now fun k => ?_
  show L4.spec_ProofCutIs.j0 (k + 1) p s true = _
  rw [L4.spec_ProofCutIs.j0, if_pos rfl]
theorem specIs_f (p : List ByteArray) (hp : SmallP p) (s : ByteArray) (hs : s.size ≤ 2000000) : Ev (fun n => L4.spec_ProofCutIs.f n p s) (proofCutIsP p s) := by
  have hpi : spec_PlanIn.f p = some (planG p) := by unfold spec_PlanIn.f; rw [if_pos hp]
  cases hpl : planG p with
  | false =>
    have hv : proofCutIsP p s = (0, false) := by unfold proofCutIsP; rw [hpl]; rfl
    rw [hv]
    refine ⟨0, fun n _ => ?_⟩
    show L4.spec_ProofCutIs.f n p s = _
    unfold L4.spec_ProofCutIs.f
    rw [hpi, hpl]; rfl
  | true =>
    obtain ⟨T, he, hT⟩ := spec_text p hpl
    have ht := tot_ev he
    change spec_l3Text.f p = _ at ht
    have hlen := textL_len (clP p) (boxesP p) 13 (0, 0, p.length, wdP p)
    change ∀ x, cutTextO p = some x → _ at hlen
    cases ho : cutTextO p with
    | none =>
      rw [ho] at ht
      have hv : proofCutIsP p s = (0, preB s wStuck && stuckByP (clP p) (boxesP p) (restW s wStuck)) := by
        unfold proofCutIsP
        rw [hpl, ho]
        simp only [if_true]
        cases hc : preB s wCut with
        | true => rw [cut_not_stuck hc]; simp
        | false => simp
      rw [hv]
      refine (isJ hpl s hs).same fun n => ?_
      show L4.spec_ProofCutIs.f n p s = _
      unfold L4.spec_ProofCutIs.f
      rw [hpi, hpl]
      simp only [Option.bind_some, if_true]
      rw [ht]
      rfl
    | some x =>
      rw [ho] at ht
      have hTx := hT x ho
      have hx := hlen x ho
      have hsz : (4 : Nat) + T.size ≤ 9223372036854775807 := by
        rw [hTx]
        show 4 + x.toArray.size ≤ _
        rw [List.size_toArray]; omega
      have hf : ∀ n, L4.spec_ProofCutIs.f n p s = L4.spec_ProofCutIs.j0 n p s (preB s wCut && decide (T = restW s wCut)) := fun n => by
        unfold L4.spec_ProofCutIs.f
        rw [hpi, hpl]
        simp only [Option.bind_some, if_true]
        rw [ht]
        simp only [Option.bind_some, Option.isSome_some, if_true]
        rw [if_pos hsz]
        rw [show (s.toList == ((⟨#[99, 117, 116, 32]⟩ : ByteArray) ++ T).toList) = (preB s wCut && decide (T = restW s wCut)) from word_eq s wCut T]
      cases hc : preB s wCut with
      | true =>
        by_cases hq : T = restW s wCut
        · have hv : proofCutIsP p s = (1, true) := by
            unfold proofCutIsP
            rw [hpl, ho, hc]
            simp only [if_true]
            rw [← hTx, if_pos hq]
          rw [hv]
          refine (isJ1 p s).same fun n => ?_
          show L4.spec_ProofCutIs.f n p s = _
          rw [hf, hc, decide_eq_true hq]; rfl
        · have hv : proofCutIsP p s = (0, preB s wStuck && stuckByP (clP p) (boxesP p) (restW s wStuck)) := by
            unfold proofCutIsP
            rw [hpl, ho, hc, cut_not_stuck hc]
            simp only [if_true]
            rw [← hTx, if_neg hq]; rfl
          rw [hv]
          refine (isJ hpl s hs).same fun n => ?_
          show L4.spec_ProofCutIs.f n p s = _
          rw [hf, hc, decide_eq_false hq]; rfl
      | false =>
        have hv : proofCutIsP p s = (0, preB s wStuck && stuckByP (clP p) (boxesP p) (restW s wStuck)) := by
          unfold proofCutIsP
          rw [hpl, ho, hc]
          simp
        rw [hv]
        refine (isJ hpl s hs).same fun n => ?_
        show L4.spec_ProofCutIs.f n p s = _
        rw [hf, hc]; rfl
def spec_ProofCutIs.f (l0 : List ByteArray) (a1 : ByteArray) : Option (Int × Bool) := if SmallP l0 ∧ a1.size ≤ 2000000 then some (proofCutIsP l0 a1) else none
theorem spec_ProofCutIs.calls (A0 : Option Addr) (c0 : Nat) (l0 : List ByteArray) (a1 : ByteArray) (r1 : Int) (r2 : Bool) (w : World) (hr0 : Kd.C Kd.string w A0 l0.length l0) (hc0 : l0.length ≤ c0) (h : spec_ProofCutIs.f l0 a1 = some (r1, r2)) :
    Calls Try.prog 38 #[.slice A0 l0.length c0, .string a1] w fun e w' => e = .returned (.tuple #[.int .i64 r1, .bool r2]) ∧ Below w.heap.size w w' := by
  unfold spec_ProofCutIs.f at h
  split at h
  · rename_i hb
    injection h with h
    obtain ⟨k, hk⟩ := (specIs_f l0 hb.1 a1 hb.2).ex
    rw [h] at hk
    exact L4.spec_ProofCutIs.calls k A0 c0 l0 a1 r1 r2 w hr0 hc0 hk
  · cases h
end Go.Proofs.Ytdhnjecbdclmaaa
end
section
namespace Go.Proofs.Ytdhnjecbdclmaaa
open Go.RowKit Go.Shelf Go.Proofs.YtdhnjecbdclmaaaW.PrintWords Go.Proofs.YtdhnjecbdclmaaaW.PrintMore
set_option linter.unusedVariables false
def roomsN (boxes : List Box) (r c ph pw : Nat) : Nat := (listL boxes (natB r c ph pw) boxes.length).length
theorem rooms_pos {cl : Nat → Nat → Int} {boxes : List Box} {h wd r c ph pw : Nat} (f : Flat cl boxes h wd) (hw : Whole cl h wd r c ph pw) : 1 ≤ roomsN boxes r c ph pw := by
  have hs := hw.some
  have := (listL_iff f hw (cl r c)).2 ⟨r, c, ⟨⟨by omega, by omega⟩, by omega, by omega⟩, rfl⟩
  exact List.length_pos_of_mem this
theorem listL_split {boxes : List Box} {b b1 b2 : Box} (hs : ∀ k (hk : k < boxes.length), (bothB b boxes[k] = b ↔ bothB b1 boxes[k] = b1 ∨ bothB b2 boxes[k] = b2) ∧ ¬ (bothB b1 boxes[k] = b1 ∧ bothB b2 boxes[k] = b2)) :
    ∀ n, n ≤ boxes.length → (listL boxes b n).length = (listL boxes b1 n).length + (listL boxes b2 n).length := by
  intro n
  induction n with
  | zero => intro _; rfl
  | succ n ih =>
    intro hn
    have ih := ih (by omega)
    obtain ⟨e1, e2⟩ := hs n (by omega)
    unfold listL
    rw [List.length_append, List.length_append, List.length_append, List.getD_eq_getElem?_getD, List.getElem?_eq_getElem (by omega), Option.getD_some]
    by_cases h1 : bothB b1 boxes[n] = b1
    · by_cases h2 : bothB b2 boxes[n] = b2
      · exact absurd ⟨h1, h2⟩ e2
      · rw [if_pos (e1.2 (.inl h1)), if_pos h1, if_neg h2]; simp; omega
    · by_cases h2 : bothB b2 boxes[n] = b2
      · rw [if_pos (e1.2 (.inr h2)), if_neg h1, if_pos h2]; simp; omega
      · rw [if_neg (fun h => (e1.1 h).elim h1 h2), if_neg h1, if_neg h2]; simp; omega
theorem rooms_split {cl : Nat → Nat → Int} {boxes : List Box} {h wd r c ph pw : Nat} (f : Flat cl boxes h wd) (hw : Whole cl h wd r c ph pw) {x : Bool × Nat} (hx : x ∈ cutsL cl r c ph pw) :
    roomsN boxes r c ph pw = roomsN boxes (oneR r c ph pw x).1 (oneR r c ph pw x).2.1 (oneR r c ph pw x).2.2.1 (oneR r c ph pw x).2.2.2 + roomsN boxes (twoR r c ph pw x).1 (twoR r c ph pw x).2.1 (twoR r c ph pw x).2.2.1 (twoR r c ph pw x).2.2.2 := by
  obtain ⟨w1, w2⟩ := whole_parts f hw hx
  have hin := cutsL_in hx
  refine listL_split (fun k hk => ?_) _ (Nat.le_refl _)
  have q0 := room_within f hw k hk
  have q1 := room_within f w1 k hk
  have q2 := room_within f w2 k hk
  rw [q0, q1, q2]
  obtain ⟨b, l⟩ := x
  cases b with
  | false =>
    simp only [Bool.false_eq_true, if_false] at hin
    simp only [oneR, twoR, Bool.false_eq_true, if_false]
    constructor
    · constructor
      · rintro ⟨i, j, ⟨a1, a2, a3⟩, hc⟩
        by_cases hj : j < l
        · exact .inl ⟨i, j, ⟨a1, a2, by omega⟩, hc⟩
        · exact .inr ⟨i, j, ⟨a1, by omega, by omega⟩, hc⟩
      · rintro (⟨i, j, ⟨a1, a2, a3⟩, hc⟩ | ⟨i, j, ⟨a1, a2, a3⟩, hc⟩)
        · exact ⟨i, j, ⟨a1, a2, by omega⟩, hc⟩
        · exact ⟨i, j, ⟨a1, by omega, by omega⟩, hc⟩
    · rintro ⟨⟨i, j, ⟨a1, a2, a3⟩, hc⟩, ⟨i', j', ⟨b1, b2, b3⟩, hc'⟩⟩
      have := side_up f hw ⟨hin.1, hin.2.1⟩ hin.2.2 (i := i) (j := j) (i' := i') (j' := j') ⟨a1, a2, by omega⟩ ⟨b1, by omega, by omega⟩ (by rw [hc, hc'])
      omega
  | true =>
    simp only [if_true] at hin
    simp only [oneR, twoR, if_true]
    constructor
    · constructor
      · rintro ⟨i, j, ⟨⟨a1, a2⟩, a3⟩, hc⟩
        by_cases hj : i < l
        · exact .inl ⟨i, j, ⟨⟨a1, by omega⟩, a3⟩, hc⟩
        · exact .inr ⟨i, j, ⟨⟨by omega, by omega⟩, a3⟩, hc⟩
      · rintro (⟨i, j, ⟨⟨a1, a2⟩, a3⟩, hc⟩ | ⟨i, j, ⟨⟨a1, a2⟩, a3⟩, hc⟩)
        · exact ⟨i, j, ⟨⟨a1, by omega⟩, a3⟩, hc⟩
        · exact ⟨i, j, ⟨⟨by omega, by omega⟩, a3⟩, hc⟩
    · rintro ⟨⟨i, j, ⟨⟨a1, a2⟩, a3⟩, hc⟩, ⟨i', j', ⟨⟨b1, b2⟩, b3⟩, hc'⟩⟩
      have := side_lv f hw ⟨hin.1, hin.2.1⟩ hin.2.2 (i := i) (j := j) (i' := i') (j' := j') ⟨⟨a1, by omega⟩, a3⟩ ⟨⟨by omega, by omega⟩, b3⟩ (by rw [hc, hc'])
      omega
def waysN (cl : Nat → Nat → Int) (boxes : List Box) : Nat → Rc → Nat
  | 0, _ => 0
  | n + 1, (r, c, ph, pw) => if (listL boxes (natB r c ph pw) boxes.length).length = 1 then 1 else ((cutsL cl r c ph pw).map fun x => waysN cl boxes n (oneR r c ph pw x) * waysN cl boxes n (twoR r c ph pw x)).sum
end Go.Proofs.Ytdhnjecbdclmaaa
end
