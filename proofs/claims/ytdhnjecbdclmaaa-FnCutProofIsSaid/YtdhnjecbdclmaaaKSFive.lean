/- Plain: a part of several rooms without a cut has five rooms at least. -/
import Derived.Test.YtdhnjecbdclmaaaKSHered
namespace Go.Proofs.Ytdhnjecbdclmaaa
open Go.RowKit Go.Shelf Go.Proofs.YtdhnjecbdclmaaaW.PrintWords Go.Proofs.YtdhnjecbdclmaaaW.PrintMore
set_option linter.unusedVariables false
set_option linter.unusedSimpArgs false
theorem four_all {L : List Int} (hp : L.Pairwise (· < ·)) (hl : L.length ≤ 4) {a b c d : Int} (ha : a ∈ L) (hb : b ∈ L) (hc : c ∈ L) (hd : d ∈ L) (h1 : a ≠ b) (h2 : a ≠ c) (h3 : a ≠ d) (h4 : b ≠ c) (h5 : b ≠ d) (h6 : c ≠ d) : ∀ x ∈ L, x = a ∨ x = b ∨ x = c ∨ x = d := by
  intro x hx
  refine Classical.byContradiction fun hne => ?_
  have n1 : x ≠ a := fun e => hne (.inl e)
  have n2 : x ≠ b := fun e => hne (.inr (.inl e))
  have n3 : x ≠ c := fun e => hne (.inr (.inr (.inl e)))
  have n4 : x ≠ d := fun e => hne (.inr (.inr (.inr e)))
  have hnd : [x, a, b, c, d].Nodup := by simp [n1, n2, n3, n4, h1, h2, h3, h4, h5, h6]
  have hsub : [x, a, b, c, d] ⊆ L := fun y hy => by
    simp only [List.mem_cons, List.not_mem_nil, or_false] at hy
    rcases hy with rfl | rfl | rfl | rfl | rfl <;> assumption
  have := hnd.length_le_of_subset hsub
  simp only [List.length_cons, List.length_nil] at this
  omega
set_option maxHeartbeats 4000000 in
theorem corners {r c ph pw aA bA dA eA aB bB dB eB aC bC dC eC aD bD dD eD : Nat} (hs1 : 1 ≤ ph) (hs2 : 1 ≤ pw) (A1 : r ≤ aA ∧ 1 ≤ dA ∧ aA + dA ≤ r + ph) (A2 : c ≤ bA ∧ 1 ≤ eA ∧ bA + eA ≤ c + pw) (B1 : r ≤ aB ∧ 1 ≤ dB ∧ aB + dB ≤ r + ph) (B2 : c ≤ bB ∧ 1 ≤ eB ∧ bB + eB ≤ c + pw) (C1 : r ≤ aC ∧ 1 ≤ dC ∧ aC + dC ≤ r + ph) (C2 : c ≤ bC ∧ 1 ≤ eC ∧ bC + eC ≤ c + pw) (D1 : r ≤ aD ∧ 1 ≤ dD ∧ aD + dD ≤ r + ph) (D2 : c ≤ bD ∧ 1 ≤ eD ∧ bD + eD ≤ c + pw) (a0 : ((aA ≤ r ∧ r < aA + dA) ∧ bA ≤ c ∧ c < bA + eA)) (b0 : ((aB ≤ r ∧ r < aB + dB) ∧ bB ≤ c + pw - 1 ∧ c + pw - 1 < bB + eB)) (q0 : ((aC ≤ r + ph - 1 ∧ r + ph - 1 < aC + dC) ∧ bC ≤ c ∧ c < bC + eC)) (d0 : ((aD ≤ r + ph - 1 ∧ r + ph - 1 < aD + dD) ∧ bD ≤ c + pw - 1 ∧ c + pw - 1 < bD + eD)) (cov : ∀ i j, (r ≤ i ∧ i < r + ph) ∧ c ≤ j ∧ j < c + pw → ((aA ≤ i ∧ i < aA + dA) ∧ bA ≤ j ∧ j < bA + eA) ∨ ((aB ≤ i ∧ i < aB + dB) ∧ bB ≤ j ∧ j < bB + eB) ∨ ((aC ≤ i ∧ i < aC + dC) ∧ bC ≤ j ∧ j < bC + eC) ∨ ((aD ≤ i ∧ i < aD + dD) ∧ bD ≤ j ∧ j < bD + eD)) (xAB : ∀ i j, (r ≤ i ∧ i < r + ph) ∧ c ≤ j ∧ j < c + pw → ¬ (((aA ≤ i ∧ i < aA + dA) ∧ bA ≤ j ∧ j < bA + eA) ∧ ((aB ≤ i ∧ i < aB + dB) ∧ bB ≤ j ∧ j < bB + eB))) (xAC : ∀ i j, (r ≤ i ∧ i < r + ph) ∧ c ≤ j ∧ j < c + pw → ¬ (((aA ≤ i ∧ i < aA + dA) ∧ bA ≤ j ∧ j < bA + eA) ∧ ((aC ≤ i ∧ i < aC + dC) ∧ bC ≤ j ∧ j < bC + eC))) (xAD : ∀ i j, (r ≤ i ∧ i < r + ph) ∧ c ≤ j ∧ j < c + pw → ¬ (((aA ≤ i ∧ i < aA + dA) ∧ bA ≤ j ∧ j < bA + eA) ∧ ((aD ≤ i ∧ i < aD + dD) ∧ bD ≤ j ∧ j < bD + eD))) (xBC : ∀ i j, (r ≤ i ∧ i < r + ph) ∧ c ≤ j ∧ j < c + pw → ¬ (((aB ≤ i ∧ i < aB + dB) ∧ bB ≤ j ∧ j < bB + eB) ∧ ((aC ≤ i ∧ i < aC + dC) ∧ bC ≤ j ∧ j < bC + eC))) (xBD : ∀ i j, (r ≤ i ∧ i < r + ph) ∧ c ≤ j ∧ j < c + pw → ¬ (((aB ≤ i ∧ i < aB + dB) ∧ bB ≤ j ∧ j < bB + eB) ∧ ((aD ≤ i ∧ i < aD + dD) ∧ bD ≤ j ∧ j < bD + eD))) (xCD : ∀ i j, (r ≤ i ∧ i < r + ph) ∧ c ≤ j ∧ j < c + pw → ¬ (((aC ≤ i ∧ i < aC + dC) ∧ bC ≤ j ∧ j < bC + eC) ∧ ((aD ≤ i ∧ i < aD + dD) ∧ bD ≤ j ∧ j < bD + eD))) :
    ((aA = r ∧ bA = c) ∧ (aB = r ∧ bB + eB = c + pw) ∧ (aC + dC = r + ph ∧ bC = c) ∧ (aD + dD = r + ph ∧ bD + eD = c + pw)) ∧ (eA < pw ∧ c < bB ∧ eC < pw ∧ c < bD ∧ dA < ph ∧ r < aC ∧ dB < ph ∧ r < aD) ∧ (bB = c + eA ∧ bD = c + eC ∧ aC = r + dA ∧ aD = r + dB) := by
  have c00 : (r ≤ r ∧ r < r + ph) ∧ c ≤ c ∧ c < c + pw := by omega
  have c01 : (r ≤ r ∧ r < r + ph) ∧ c ≤ c + pw - 1 ∧ c + pw - 1 < c + pw := by omega
  have c10 : (r ≤ r + ph - 1 ∧ r + ph - 1 < r + ph) ∧ c ≤ c ∧ c < c + pw := by omega
  have c11 : (r ≤ r + ph - 1 ∧ r + ph - 1 < r + ph) ∧ c ≤ c + pw - 1 ∧ c + pw - 1 < c + pw := by omega
  have sA : aA = r ∧ bA = c := by omega
  have sB : aB = r ∧ bB + eB = c + pw := by omega
  have sC : aC + dC = r + ph ∧ bC = c := by omega
  have sD : aD + dD = r + ph ∧ bD + eD = c + pw := by omega
  have tA : eA < pw := by have h9 := xAB r (c + pw - 1) c01; omega
  have tB : c < bB := by have h9 := xAB r c c00; omega
  have tC : eC < pw := by have h9 := xCD (r + ph - 1) (c + pw - 1) c11; omega
  have tD : c < bD := by have h9 := xCD (r + ph - 1) c c10; omega
  have uA : dA < ph := by have h9 := xAC (r + ph - 1) c c10; omega
  have uC : r < aC := by have h9 := xAC r c c00; omega
  have uB : dB < ph := by have h9 := xBD (r + ph - 1) (c + pw - 1) c11; omega
  have uD : r < aD := by have h9 := xBD r (c + pw - 1) c01; omega
  have top : bB = c + eA := by
    have g1 := cov r (c + eA) ⟨⟨by omega, by omega⟩, by omega, by omega⟩
    have g4 := xAB r bB ⟨⟨by omega, by omega⟩, by omega, by omega⟩
    omega
  have low : bD = c + eC := by
    have g1 := cov (r + ph - 1) (c + eC) ⟨⟨by omega, by omega⟩, by omega, by omega⟩
    have g4 := xCD (r + ph - 1) bD ⟨⟨by omega, by omega⟩, by omega, by omega⟩
    omega
  have left : aC = r + dA := by
    have g1 := cov (r + dA) c ⟨⟨by omega, by omega⟩, by omega, by omega⟩
    have g4 := xAC aC c ⟨⟨by omega, by omega⟩, by omega, by omega⟩
    omega
  have right : aD = r + dB := by
    have g1 := cov (r + dB) (c + pw - 1) ⟨⟨by omega, by omega⟩, by omega, by omega⟩
    have g4 := xBD aD (c + pw - 1) ⟨⟨by omega, by omega⟩, by omega, by omega⟩
    omega
  exact ⟨⟨sA, sB, sC, sD⟩, ⟨tA, tB, tC, tD, uA, uC, uB, uD⟩, top, low, left, right⟩
set_option maxHeartbeats 4000000 in
theorem five_rooms {cl : Nat → Nat → Int} {boxes : List Box} {h wd r c ph pw : Nat} (f : Flat cl boxes h wd) (hw : Whole cl h wd r c ph pw) (h1 : (listL boxes (natB r c ph pw) boxes.length).length ≠ 1) (hno : (cutsL cl r c ph pw).head? = none) : 5 ≤ (listL boxes (natB r c ph pw) boxes.length).length := by
  have hrow := hw.row
  have hcol := hw.col
  obtain ⟨hs1, hs2⟩ := hw.some
  have hnone : ∀ x, x ∉ cutsL cl r c ph pw := fun x hx => by rw [List.head?_eq_none_iff.1 hno] at hx; exact List.not_mem_nil hx
  have hlv : ∀ k, r + 1 ≤ k → k < r + ph → ∃ j, c ≤ j ∧ j < c + pw ∧ cl (k - 1) j = cl k j := fun k k1 k2 => by
    refine Classical.byContradiction fun hne => hnone (true, k) ((cuts_lv cl r c ph pw k).2 ⟨k1, k2, (throughL_iff cl true k c pw).2 fun i hi he => hne ⟨c + i, by omega, by omega, ?_⟩⟩)
    exact he
  have hup : ∀ k, c + 1 ≤ k → k < c + pw → ∃ i, r ≤ i ∧ i < r + ph ∧ cl i (k - 1) = cl i k := fun k k1 k2 => by
    refine Classical.byContradiction fun hne => hnone (false, k) ((cuts_up cl r c ph pw k).2 ⟨k1, k2, (throughL_iff cl false k r ph).2 fun i hi he => hne ⟨r + i, by omega, by omega, ?_⟩⟩)
    exact he
  have hbox : ∀ i j, InR r c ph pw i j → ∃ a b d e, (r ≤ a ∧ 1 ≤ d ∧ a + d ≤ r + ph) ∧ (c ≤ b ∧ 1 ≤ e ∧ b + e ≤ c + pw) ∧ ∀ i' j', InR r c ph pw i' j' → (cl i' j' = cl i j ↔ (a ≤ i' ∧ i' < a + d) ∧ b ≤ j' ∧ j' < b + e) := by
    intro i j hij
    obtain ⟨k, hk, hck⟩ := f.num i j (by have := hij.1; omega) (by have := hij.2; omega)
    have hin := (room_within f hw k hk).2 ⟨i, j, hij, hck⟩
    obtain ⟨a, b, d, e, hb, p1, p2, p3, p4, hcl⟩ := f.box k hk
    rw [hb, both_within] at hin
    refine ⟨a, b, d, e, ⟨by omega, p1, by omega⟩, ⟨by omega, p2, by omega⟩, fun i' j' hij' => ?_⟩
    rw [hck]
    exact hcl i' j' (by have := hij'.1; omega) (by have := hij'.2; omega)
  have hnot : ¬ ∀ i j, InR r c ph pw i j → cl i j = cl r c := fun hall => h1 ((list_one f hw).2 hall)
  have c00 : InR r c ph pw r c := ⟨⟨by omega, by omega⟩, by omega, by omega⟩
  have c01 : InR r c ph pw r (c + pw - 1) := ⟨⟨by omega, by omega⟩, by omega, by omega⟩
  have c10 : InR r c ph pw (r + ph - 1) c := ⟨⟨by omega, by omega⟩, by omega, by omega⟩
  have c11 : InR r c ph pw (r + ph - 1) (c + pw - 1) := ⟨⟨by omega, by omega⟩, by omega, by omega⟩
  obtain ⟨aA, bA, dA, eA, A1, A2, hA⟩ := hbox _ _ c00
  obtain ⟨aB, bB, dB, eB, B1, B2, hB⟩ := hbox _ _ c01
  obtain ⟨aC, bC, dC, eC, C1, C2, hC⟩ := hbox _ _ c10
  obtain ⟨aD, bD, dD, eD, D1, D2, hD⟩ := hbox _ _ c11
  have a0 := (hA r c c00).1 rfl
  have b0 := (hB r (c + pw - 1) c01).1 rfl
  have q0 := (hC (r + ph - 1) c c10).1 rfl
  have d0 := (hD (r + ph - 1) (c + pw - 1) c11).1 rfl
  have hall : ∀ i j, InR r c ph pw i j → ∀ a b d e, (∀ i' j', InR r c ph pw i' j' → (cl i' j' = cl i j ↔ (a ≤ i' ∧ i' < a + d) ∧ b ≤ j' ∧ j' < b + e)) → a = r → b = c → a + d = r + ph → b + e = c + pw → False := by
    intro i j hij a b d e hX e1 e2 e3 e4
    refine hnot fun i' j' hij' => ?_
    rw [(hX i' j' hij').2 ⟨⟨by have := hij'.1; omega, by have := hij'.1; omega⟩, by have := hij'.2; omega, by have := hij'.2; omega⟩]
    exact ((hX r c c00).2 ⟨⟨by omega, by omega⟩, by omega, by omega⟩).symm
  have nAD : cl r c ≠ cl (r + ph - 1) (c + pw - 1) := fun e => by
    have := (hA _ _ c11).1 e.symm
    exact hall r c c00 aA bA dA eA hA (by omega) (by omega) (by omega) (by omega)
  have nBC : cl r (c + pw - 1) ≠ cl (r + ph - 1) c := fun e => by
    have := (hB _ _ c10).1 e.symm
    exact hall r _ c01 aB bB dB eB hB (by omega) (by omega) (by omega) (by omega)
  have nAB : cl r c ≠ cl r (c + pw - 1) := fun e => by
    have h9 := (hA _ _ c01).1 e.symm
    by_cases hd : aA + dA = r + ph
    · exact hall r c c00 aA bA dA eA hA (by omega) (by omega) (by omega) (by omega)
    · obtain ⟨j, j1, j2, he⟩ := hlv (r + dA) (by omega) (by omega)
      have g1 := (hA (r + dA - 1) j ⟨⟨by omega, by omega⟩, j1, j2⟩).2 ⟨⟨by omega, by omega⟩, by omega, by omega⟩
      have g2 := (hA (r + dA) j ⟨⟨by omega, by omega⟩, j1, j2⟩).1 (he.symm.trans g1)
      omega
  have nCD : cl (r + ph - 1) c ≠ cl (r + ph - 1) (c + pw - 1) := fun e => by
    have h9 := (hC _ _ c11).1 e.symm
    by_cases hd : aC = r
    · exact hall _ c c10 aC bC dC eC hC (by omega) (by omega) (by omega) (by omega)
    · obtain ⟨j, j1, j2, he⟩ := hlv aC (by omega) (by omega)
      have g1 := (hC aC j ⟨⟨by omega, by omega⟩, j1, j2⟩).2 ⟨⟨by omega, by omega⟩, by omega, by omega⟩
      have g2 := (hC (aC - 1) j ⟨⟨by omega, by omega⟩, j1, j2⟩).1 (he.trans g1)
      omega
  have nAC : cl r c ≠ cl (r + ph - 1) c := fun e => by
    have h9 := (hA _ _ c10).1 e.symm
    by_cases hd : bA + eA = c + pw
    · exact hall r c c00 aA bA dA eA hA (by omega) (by omega) (by omega) (by omega)
    · obtain ⟨i, i1, i2, he⟩ := hup (c + eA) (by omega) (by omega)
      have g1 := (hA i (c + eA - 1) ⟨⟨i1, i2⟩, by omega, by omega⟩).2 ⟨⟨by omega, by omega⟩, by omega, by omega⟩
      have g2 := (hA i (c + eA) ⟨⟨i1, i2⟩, by omega, by omega⟩).1 (he.symm.trans g1)
      omega
  have nBD : cl r (c + pw - 1) ≠ cl (r + ph - 1) (c + pw - 1) := fun e => by
    have h9 := (hB _ _ c11).1 e.symm
    by_cases hd : bB = c
    · exact hall r _ c01 aB bB dB eB hB (by omega) (by omega) (by omega) (by omega)
    · obtain ⟨i, i1, i2, he⟩ := hup bB (by omega) (by omega)
      have g1 := (hB i bB ⟨⟨i1, i2⟩, by omega, by omega⟩).2 ⟨⟨by omega, by omega⟩, by omega, by omega⟩
      have g2 := (hB i (bB - 1) ⟨⟨i1, i2⟩, by omega, by omega⟩).1 (he.trans g1)
      omega
  refine Classical.byContradiction fun hn => ?_
  have hfour : ∀ i j, InR r c ph pw i j → cl i j = cl r c ∨ cl i j = cl r (c + pw - 1) ∨ cl i j = cl (r + ph - 1) c ∨ cl i j = cl (r + ph - 1) (c + pw - 1) := fun i j hij =>
    four_all (listL_sorted boxes (natB r c ph pw) boxes.length).1 (by omega) ((listL_iff f hw _).2 ⟨_, _, c00, rfl⟩) ((listL_iff f hw _).2 ⟨_, _, c01, rfl⟩) ((listL_iff f hw _).2 ⟨_, _, c10, rfl⟩) ((listL_iff f hw _).2 ⟨_, _, c11, rfl⟩) nAB nAC nAD nBC nBD nCD _ ((listL_iff f hw _).2 ⟨i, j, hij, rfl⟩)
  have cov : ∀ i j, InR r c ph pw i j → ((aA ≤ i ∧ i < aA + dA) ∧ bA ≤ j ∧ j < bA + eA) ∨ ((aB ≤ i ∧ i < aB + dB) ∧ bB ≤ j ∧ j < bB + eB) ∨ ((aC ≤ i ∧ i < aC + dC) ∧ bC ≤ j ∧ j < bC + eC) ∨ ((aD ≤ i ∧ i < aD + dD) ∧ bD ≤ j ∧ j < bD + eD) := fun i j hij => by
    rcases hfour i j hij with e | e | e | e
    · exact .inl ((hA i j hij).1 e)
    · exact .inr (.inl ((hB i j hij).1 e))
    · exact .inr (.inr (.inl ((hC i j hij).1 e)))
    · exact .inr (.inr (.inr ((hD i j hij).1 e)))
  have xAB : ∀ i j, InR r c ph pw i j → ¬ (((aA ≤ i ∧ i < aA + dA) ∧ bA ≤ j ∧ j < bA + eA) ∧ ((aB ≤ i ∧ i < aB + dB) ∧ bB ≤ j ∧ j < bB + eB)) := fun i j hij h => nAB (((hA i j hij).2 h.1).symm.trans ((hB i j hij).2 h.2))
  have xAC : ∀ i j, InR r c ph pw i j → ¬ (((aA ≤ i ∧ i < aA + dA) ∧ bA ≤ j ∧ j < bA + eA) ∧ ((aC ≤ i ∧ i < aC + dC) ∧ bC ≤ j ∧ j < bC + eC)) := fun i j hij h => nAC (((hA i j hij).2 h.1).symm.trans ((hC i j hij).2 h.2))
  have xAD : ∀ i j, InR r c ph pw i j → ¬ (((aA ≤ i ∧ i < aA + dA) ∧ bA ≤ j ∧ j < bA + eA) ∧ ((aD ≤ i ∧ i < aD + dD) ∧ bD ≤ j ∧ j < bD + eD)) := fun i j hij h => nAD (((hA i j hij).2 h.1).symm.trans ((hD i j hij).2 h.2))
  have xBC : ∀ i j, InR r c ph pw i j → ¬ (((aB ≤ i ∧ i < aB + dB) ∧ bB ≤ j ∧ j < bB + eB) ∧ ((aC ≤ i ∧ i < aC + dC) ∧ bC ≤ j ∧ j < bC + eC)) := fun i j hij h => nBC (((hB i j hij).2 h.1).symm.trans ((hC i j hij).2 h.2))
  have xBD : ∀ i j, InR r c ph pw i j → ¬ (((aB ≤ i ∧ i < aB + dB) ∧ bB ≤ j ∧ j < bB + eB) ∧ ((aD ≤ i ∧ i < aD + dD) ∧ bD ≤ j ∧ j < bD + eD)) := fun i j hij h => nBD (((hB i j hij).2 h.1).symm.trans ((hD i j hij).2 h.2))
  have xCD : ∀ i j, InR r c ph pw i j → ¬ (((aC ≤ i ∧ i < aC + dC) ∧ bC ≤ j ∧ j < bC + eC) ∧ ((aD ≤ i ∧ i < aD + dD) ∧ bD ≤ j ∧ j < bD + eD)) := fun i j hij h => nCD (((hC i j hij).2 h.1).symm.trans ((hD i j hij).2 h.2))
  obtain ⟨⟨sA, sB, sC, sD⟩, ⟨tA, tB, tC, tD, uA, uC, uB, uD⟩, top, low, left, right⟩ := corners hs1 hs2 A1 A2 B1 B2 C1 C2 D1 D2 a0 b0 q0 d0 cov xAB xAC xAD xBC xBD xCD
  by_cases hwq : eA = eC
  · obtain ⟨i, i1, i2, he⟩ := hup (c + eA) (by omega) (by omega)
    have y1 : InR r c ph pw i (c + eA - 1) := ⟨⟨i1, i2⟩, by omega, by omega⟩
    have y2 : InR r c ph pw i (c + eA) := ⟨⟨i1, i2⟩, by omega, by omega⟩
    by_cases hi : i < r + dA
    · have z1 := (hA _ _ y1).2 (by omega)
      have z2 := (hA _ _ y2).1 (he.symm.trans z1)
      omega
    · have z1 := (hC _ _ y1).2 (by omega)
      have z2 := (hC _ _ y2).1 (he.symm.trans z1)
      omega
  · by_cases hhq : dA = dB
    · obtain ⟨j, j1, j2, he⟩ := hlv (r + dA) (by omega) (by omega)
      have y1 : InR r c ph pw (r + dA - 1) j := ⟨⟨by omega, by omega⟩, j1, j2⟩
      have y2 : InR r c ph pw (r + dA) j := ⟨⟨by omega, by omega⟩, j1, j2⟩
      by_cases hj : j < c + eA
      · have z1 := (hA _ _ y1).2 (by omega)
        have z2 := (hA _ _ y2).1 (he.symm.trans z1)
        omega
      · have z1 := (hB _ _ y1).2 (by omega)
        have z2 := (hB _ _ y2).1 (he.symm.trans z1)
        omega
    · by_cases g1 : eC < eA
      · by_cases g2 : dB < dA
        · have := xAD (r + dB) (c + eC) ⟨⟨by omega, by omega⟩, by omega, by omega⟩; omega
        · have := cov (r + dA) (c + eC) ⟨⟨by omega, by omega⟩, by omega, by omega⟩; omega
      · by_cases g2 : dB < dA
        · have := cov (r + dB) (c + eA) ⟨⟨by omega, by omega⟩, by omega, by omega⟩; omega
        · have := xBC (r + dA) (c + eA) ⟨⟨by omega, by omega⟩, by omega, by omega⟩; omega
end Go.Proofs.Ytdhnjecbdclmaaa
