/- Plain: proofs about cuts tell whether a plan is cuttable. -/
import Derived.Test.YtdhnjecbdclmaaaKSProofCutIsM
import Derived.Test.YtdhnjecbdclmaaaKSFold
import Derived.Test.YtdhnjecbdclmaaaKSFive
namespace Go.Proofs.Ytdhnjecbdclmaaa
open Go.RowKit Go.Shelf Go.Proofs.YtdhnjecbdclmaaaW.PrintWords Go.Proofs.YtdhnjecbdclmaaaW.PrintMore
set_option linter.unusedVariables false
set_option linter.unusedSimpArgs false
theorem proof_own {p : List ByteArray} (h : planG p = true) : proofCutIsP p (proofCutP p).1 = (if cutIsP p then 1 else 0, true) := by
  have hc : cutIsP p = (cutTextO p).isSome := by unfold cutIsP cutTextP; rw [if_pos h]
  cases ho : cutTextO p with
  | some s =>
    have hv : (proofCutP p).1 = wCut ++ ⟨s.toArray⟩ := by unfold proofCutP; rw [if_pos h, ho]
    have hd : (wCut ++ (⟨s.toArray⟩ : ByteArray)).data.toList = wCut.data.toList ++ s := by rw [Go.Joins.data_append]
    have hp := (preB_iff (wCut ++ (⟨s.toArray⟩ : ByteArray)) wCut).2 ⟨s, hd⟩
    have hr : restW (wCut ++ (⟨s.toArray⟩ : ByteArray)) wCut = ⟨s.toArray⟩ := data_inj (restW_data hd)
    rw [hc, ho, hv]
    unfold proofCutIsP
    rw [if_pos h, if_pos hp, ho, hr]
    simp
  | none =>
    have hv : (proofCutP p).1 = wStuck ++ rowText (stuckRooms p) := by unfold proofCutP; rw [if_pos h, ho]
    have hd : (wStuck ++ rowText (stuckRooms p)).data.toList = wStuck.data.toList ++ (rowText (stuckRooms p)).data.toList := by rw [Go.Joins.data_append]
    have hp := (preB_iff (wStuck ++ rowText (stuckRooms p)) wStuck).2 ⟨_, hd⟩
    have hr : restW (wStuck ++ rowText (stuckRooms p)) wStuck = rowText (stuckRooms p) := data_inj (restW_data hd)
    have hn : preB (wStuck ++ rowText (stuckRooms p)) wCut = false := by
      cases hq : preB (wStuck ++ rowText (stuckRooms p)) wCut with
      | false => rfl
      | true => rw [cut_not_stuck hq] at hp; cases hp
    rw [hc, ho, hv]
    unfold proofCutIsP
    rw [if_pos h, hn, hp, hr, stuck_proof h ho]
    rfl
theorem proof_tells {p : List ByteArray} (h : planG p = true) (s : ByteArray) (hs : (proofCutIsP p s).2 = true) : (proofCutIsP p s).1 = if cutIsP p then 1 else 0 := by
  have hc : cutIsP p = (cutTextO p).isSome := by unfold cutIsP cutTextP; rw [if_pos h]
  rw [hc]
  unfold proofCutIsP at hs ⊢
  rw [if_pos h] at hs ⊢
  cases hp : preB s wCut with
  | true =>
    rw [hp] at hs
    simp only [if_true] at hs ⊢
    cases ho : cutTextO p with
    | none => rw [ho] at hs; cases hs
    | some t =>
      rw [ho] at hs
      simp only at hs ⊢
      split at hs
      · rename_i e; rw [if_pos e]; rfl
      · cases hs
  | false =>
    rw [hp] at hs
    simp only [Bool.false_eq_true, if_false, Bool.and_eq_true] at hs ⊢
    rw [stuckBy_not h hs.2]
    rfl
theorem stuck_five {p : List ByteArray} (h : planG p = true) (h0 : 0 < (cutStuckP p).length) : cutIsP p = false ∧ 5 ≤ (cutStuckP p).length := by
  have f := planFlat h
  have hhi := f.high
  have hwi := f.wide
  have hc : cutIsP p = (cutTextO p).isSome := by unfold cutIsP cutTextP; rw [if_pos h]
  have e := stuck_text (clP p) (boxesP p) 13 0 0 p.length (wdP p) (by omega)
  change (cutTextO p).isSome = !(stuckO p).isSome at e
  unfold cutStuckP at h0 ⊢
  rw [if_pos h] at h0 ⊢
  unfold stuckRooms at h0 ⊢
  cases hs : stuckO p with
  | none => rw [hs] at h0; exact absurd h0 (Nat.lt_irrefl 0)
  | some R =>
    rw [hs] at e
    refine ⟨by rw [hc, e]; rfl, ?_⟩
    have hw := stuck_whole f 13 0 0 p.length (wdP p) f.whole R hs
    obtain ⟨f1, f2⟩ := stuck_facts 13 0 0 p.length (wdP p) R hs
    exact five_rooms f hw f1 f2
end Go.Proofs.Ytdhnjecbdclmaaa
