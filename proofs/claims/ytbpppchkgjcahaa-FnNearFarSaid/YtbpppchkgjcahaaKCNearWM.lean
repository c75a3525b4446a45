/- Texts of this claim's, joined by a program: CNearW, CNearX, CSpecNear. -/
import Derived.Test.YtbpppchkgjcahaaKCSteps
import Derived.Test.YtbpppchkgjcahaaKCL12x
import Derived.Test.YtbpppchkgjcahaaKCFloorRM
section
namespace Go.Proofs.Ytbpppchkgjcahaa
open Go.RowKit Go.Shelf Go.Proofs.YtbpppchkgjcahaaW.PrintWords Go.Proofs.YtbpppchkgjcahaaW.PrintMore
set_option linter.unusedVariables false
set_option linter.unusedSimpArgs false
noncomputable def nbP (p : List ByteArray) : Nat → Nat → Bool := nbB (clP p) p.length (wdP p)
def roomN (p : List ByteArray) : Nat := (boxesP p).length
theorem touchP_any (p : List ByteArray) (hpl : planG p = true) (fb : Nat) (w : World) (hf : FloorR w fb p.length (wdP p) (clP p) (boxesP p)) :
    Calls Try.prog 81 #[.pointer (some ⟨fb, 0, none⟩)] w fun e w' => TouchW w w' (roomN p) (nbP p) e :=
  touching_any fb p.length (wdP p) (clP p) (boxesP p) (planFlat hpl).high (planFlat hpl).wide ⟨by
    obtain ⟨q, hq, _⟩ := (planFlat hpl).num 0 0 (by have := (planFlat hpl).high; omega) (by have := (planFlat hpl).wide; omega)
    omega, (planFlat hpl).few⟩ (fun i j hi hj => (planFlat hpl).num i j hi hj) w hf
theorem roomN_pos {p : List ByteArray} (hpl : planG p = true) : 1 ≤ roomN p ∧ roomN p ≤ 9 := ⟨by
  obtain ⟨q, hq, _⟩ := (planFlat hpl).num 0 0 (by have := (planFlat hpl).high; omega) (by have := (planFlat hpl).wide; omega)
  unfold roomN; omega, (planFlat hpl).few⟩
end Go.Proofs.Ytbpppchkgjcahaa
end
section
namespace Go.Proofs.Ytbpppchkgjcahaa
open Go.RowKit Go.Shelf Go.Proofs.YtbpppchkgjcahaaW.PrintWords Go.Proofs.YtbpppchkgjcahaaW.PrintMore
set_option linter.unusedVariables false
set_option linter.unusedSimpArgs false
def farTo (nb : Nat → Nat → Bool) (n : Nat) : Nat → Int
  | 0 => 0
  | k + 1 => max (farTo nb n k) (Lib.maxOf (stepsL nb n k))
noncomputable def farP (p : List ByteArray) : Int × Bool := if planG p then (farTo (nbP p) (roomN p) (roomN p), true) else (0, false)
theorem stepsMax (nb : Nat → Nat → Bool) (n a : Nat) (ha : a < n) (go : Nat) (w : World) (hN : NumsW w go n (dAt (stepsL nb n a))) (hn : 1 ≤ n ∧ n ≤ 9) :
    Calls Try.prog 82 #[.slice (some ⟨go, 0, none⟩) n n] w fun e w' => e = .returned (.int .i64 (Lib.maxOf (stepsL nb n a))) ∧ w' = w := by
  have hl := steps_len (nb := nb) ha
  have := Try.slices_Max_int go 0 n n (stepsL nb n a) w (by omega) (by omega) (by omega) (fun j hj => by
    rw [Nat.zero_add, (hN.at (b := j) (by omega)).1]; rfl)
  rw [List.take_of_length_le (by omega)] at this
  exact this
set_option maxHeartbeats 8000000 in
theorem nearFar_any (A : Option Addr) (cap : Nat) (p : List ByteArray) (hp : SmallP p) (w : World) (hr0 : Kd.C Kd.string w A p.length p) (hc0 : p.length ≤ cap) :
    Calls Try.prog 25 #[.slice A p.length cap] w fun e w' => e = .returned (.tuple #[.int .i64 (farP p).1, .bool (farP p).2]) ∧ Below w.heap.size w w' := by
  have HFL := floorOf_any A cap p hp.1 hp.2 w hr0 hc0
  clear hr0
  go_enter Try.func25, Try.ntmps25
  go_wp2_with fail
  refine HFL.mono ?_
  rintro e w1 ⟨hb1, ⟨hpl, fb, base, rfl, hbase, hfl⟩ | ⟨hpl, o, rfl⟩⟩
  · have HB1 := Aside0.mk hb1
    have hfr := hfl.reads
    have HTO := Aside0.mk (touchP_any p hpl fb w1 hfr)
    have HV : Aside0 (farP p = (farTo (nbP p) (roomN p) (roomN p), true)) := ⟨by unfold farP; rw [if_pos hpl]⟩
    have hn := roomN_pos hpl
    obtain ⟨n, hnn⟩ : ∃ n, roomN p = n := ⟨_, rfl⟩
    rw [hnn] at hn HTO HV
    clear hb1 hpl hfl hfr hnn
    go_wp2_with fail
    refine HTO.out.mono ?_
    rintro e w2 ⟨g, rb, T, rfl, hI, hT, hb2⟩
    have HB2 := Aside0.mk (HB1.out.trans (hb2.mono HB1.out.size))
    have HI := Aside0.mk hI
    have HT := Aside0.mk hT
    clear hI hT hb2
    go_wp2
    go_loopw [6, 20] (fun s i wr => ∃ k : Nat, i = .int .i64 k ∧ k ≤ n ∧ s = .int .i64 (farTo (nbP p) n k) ∧ Aside0 (Below w2.heap.size w2 wr)) (fun _ i _ => n - (intOf i).toNat)
    case atStart => exact ⟨0, rfl, Nat.zero_le _, rfl, ⟨Below.refl _ _⟩⟩
    case round =>
      obtain ⟨k, rfl, hk, rfl, HD⟩ := hrel
      obtain ⟨wo, rfl⟩ : ∃ wo : World, wo = wr := ⟨_, rfl⟩
      by_cases hlt : (k : Int) < (n : Int)
      · have HNE := Aside0.mk (steps_any g n rb T (nbP p) hn HT.out k (by omega) wo (HI.out.below HD.out))
        have HMX := Aside0.mk (fun go W h => stepsMax (nbP p) n k (by omega) go W h hn)
        have HS : Aside0 (farTo (nbP p) n (k + 1) = max (farTo (nbP p) n k) (Lib.maxOf (stepsL (nbP p) n k))) := ⟨rfl⟩
        obtain ⟨F, hF⟩ : ∃ F, farTo (nbP p) n k = F := ⟨_, rfl⟩
        rw [hF] at HS ⊢
        clear hF
        go_wp2_with fail
        refine HNE.out.mono ?_
        rintro e w3 ⟨go, rfl, hgo, hN, hb3⟩
        have HB3 := Aside0.mk (HD.out.trans (hb3.mono HD.out.size))
        have HN := Aside0.mk hN
        clear hN hb3 hgo
        go_wp2_with fail
        refine (HMX.out go w3 HN.out).mono ?_
        rintro e w4 ⟨rfl, rfl⟩
        go_wp2_with fail
        go_roundw
        case rel => exact ⟨k + 1, by go_num, by omega, by rw [HS.out], HB3⟩
        case measure => simp [intOf]; omega
      · have hkn : k = n := by omega
        have HBE := Aside0.mk (HB2.out.trans (HD.out.mono HB2.out.size))
        have HV2 : Aside0 (farP p = (farTo (nbP p) n k, true)) := ⟨by rw [HV.out, hkn]⟩
        clear hkn HD
        go_wp2_with fail
        go_ret2
        exact ⟨by rw [HV2.out]; rfl, HBE.out⟩
  · have HB1 := Aside0.mk hb1
    have HV : Aside0 (farP p = (0, false)) := ⟨by unfold farP; simp [hpl]⟩
    clear hb1 hpl
    go_wp2_with fail
    go_ret2
    exact ⟨by rw [HV.out]; rfl, HB1.out⟩
end Go.Proofs.Ytbpppchkgjcahaa
end
section
namespace Go.Proofs.Ytbpppchkgjcahaa
open Go.RowKit Go.Shelf Go.Proofs.YtbpppchkgjcahaaW.PrintWords Go.Proofs.YtbpppchkgjcahaaW.PrintMore
set_option linter.unusedVariables false
set_option linter.unusedSimpArgs false
theorem wlet (v : Int) (h : 97 ≤ v ∧ v ≤ 122) : wrap64 (wrap64 v - 97) = v - 97 := by unfold wrap64; omega
theorem wpred (j : Nat) (h : j ≤ 1000) : wrap64 (((j + 1 : Nat) : Int) - 1) = (j : Int) := by unfold wrap64; omega
def hitG (G : Nat → Nat → Int) (a b : Int) (i j : Nat) : Prop := (G i j - 97 = a ∧ G i (j + 1) - 97 = b) ∨ (G i j - 97 = b ∧ G i (j + 1) - 97 = a)
theorem len_step {p : List ByteArray} {h w : Nat} {G : Nat → Nat → Int} (t : TG p h w G) (a b : Int) {i j n : Nat} (hi : i < h) (hj : j + 1 < w) (hn : n ≤ 1000) :
    ∃ m, m ≤ 1 ∧ (0 < m ↔ hitG G a b i j) ∧ ∀ k, L12.spec_l4Length.l1 (k + 1) p a b (n : Int) (i : Int) ((j + 1 : Nat) : Int) = L12.spec_l4Length.l1 k p a b ((n + m : Nat) : Int) (i : Int) ((j + 1 + 1 : Nat) : Int) := by
  have hl := t.len
  have hs := t.size i hi
  have hw := t.wide
  have e1 := t.cell i j hi (by omega)
  have e2 := t.cell i (j + 1) hi hj
  have g1 := t.let_ i j hi (by omega)
  have g2 := t.let_ i (j + 1) hi hj
  have c1 : (0 : Int) ≤ (i : Int) := by omega
  have c2 : (i : Int) < (p.length : Int) := by omega
  have c3 : ((j + 1 : Nat) : Int) < ((rdOf ByteArray.empty p (i : Int)).size : Int) := by rw [hs]; omega
  have c4 : (0 : Int) ≤ (j : Int) := by omega
  have c5 : (j : Int) < ((rdOf ByteArray.empty p (i : Int)).size : Int) := by rw [hs]; omega
  have c6 : (0 : Int) ≤ ((j + 1 : Nat) : Int) := by omega
  have w1 := wpred j (by omega)
  have w2 := wlet _ g1
  have w3 := wlet _ g2
  have w4 : wrap64 (((j + 1 : Nat) : Int) + 1) = ((j + 1 + 1 : Nat) : Int) := wsucc (by omega)
  have w5 : wrap64 ((n : Int) + 1) = ((n + 1 : Nat) : Int) := wsucc (by omega)
  have hU : ∀ k, L12.spec_l4Length.l1 (k + 1) p a b (n : Int) (i : Int) ((j + 1 : Nat) : Int) = if G i j - 97 = a then (if G i (j + 1) - 97 = b then L12.spec_l4Length.l1 k p a b ((n + 1 : Nat) : Int) (i : Int) ((j + 1 + 1 : Nat) : Int) else (if G i j - 97 = b then (if G i (j + 1) - 97 = a then L12.spec_l4Length.l1 k p a b ((n + 1 : Nat) : Int) (i : Int) ((j + 1 + 1 : Nat) : Int) else L12.spec_l4Length.l1 k p a b (n : Int) (i : Int) ((j + 1 + 1 : Nat) : Int)) else L12.spec_l4Length.l1 k p a b (n : Int) (i : Int) ((j + 1 + 1 : Nat) : Int))) else (if G i j - 97 = b then (if G i (j + 1) - 97 = a then L12.spec_l4Length.l1 k p a b ((n + 1 : Nat) : Int) (i : Int) ((j + 1 + 1 : Nat) : Int) else L12.spec_l4Length.l1 k p a b (n : Int) (i : Int) ((j + 1 + 1 : Nat) : Int)) else L12.spec_l4Length.l1 k p a b (n : Int) (i : Int) ((j + 1 + 1 : Nat) : Int)) := fun k => by
    conv => lhs; unfold L12.spec_l4Length.l1
    rw [if_pos c1, if_pos c2, if_pos c3, w1, if_pos c4, if_pos c5, if_pos c6, e1, e2, w2, w3, w4, w5]
  by_cases h1 : G i j - 97 = a ∧ G i (j + 1) - 97 = b
  · refine ⟨1, Nat.le_refl _, ⟨fun _ => .inl h1, fun _ => by omega⟩, fun k => ?_⟩
    rw [hU k, if_pos h1.1, if_pos h1.2]
  · by_cases h2 : G i j - 97 = b ∧ G i (j + 1) - 97 = a
    · refine ⟨1, Nat.le_refl _, ⟨fun _ => .inr h2, fun _ => by omega⟩, fun k => ?_⟩
      rw [hU k]
      by_cases h3 : G i j - 97 = a
      · rw [if_pos h3, if_neg (fun h => h1 ⟨h3, h⟩), if_pos h2.1, if_pos h2.2]
      · rw [if_neg h3, if_pos h2.1, if_pos h2.2]
    · refine ⟨0, by omega, ⟨fun h => absurd h (by omega), fun h => absurd h (fun hh => hh.elim h1 h2)⟩, fun k => ?_⟩
      rw [hU k]
      by_cases h3 : G i j - 97 = a
      · rw [if_pos h3, if_neg (fun h => h1 ⟨h3, h⟩)]
        by_cases h4 : G i j - 97 = b
        · rw [if_pos h4, if_neg (fun h => h2 ⟨h4, h⟩)]; rfl
        · rw [if_neg h4]; rfl
      · rw [if_neg h3]
        by_cases h4 : G i j - 97 = b
        · rw [if_pos h4, if_neg (fun h => h2 ⟨h4, h⟩)]; rfl
        · rw [if_neg h4]; rfl
theorem len_row {p : List ByteArray} {h w : Nat} {G : Nat → Nat → Int} (t : TG p h w G) (a b : Int) {i : Nat} (hi : i < h) :
    ∀ d j n, j + 1 + d = w → n + d ≤ 1000 → ∃ m, m ≤ d ∧ (0 < m ↔ ∃ j', j ≤ j' ∧ j' + 1 < w ∧ hitG G a b i j') ∧ ∀ R, Ev (fun k => L12.spec_l4Length.l0 k p a b ((n + m : Nat) : Int) ((i + 1 : Nat) : Int)) R → Ev (fun k => L12.spec_l4Length.l1 k p a b (n : Int) (i : Int) ((j + 1 : Nat) : Int)) R := by
  intro d
  induction d with
  | zero =>
    intro j n hj hn
    refine ⟨0, Nat.le_refl _, ⟨fun h => absurd h (by omega), fun ⟨j', h1, h2, _⟩ => by omega⟩, fun R hR => hR.step fun k => ?_⟩
    have hl := t.len
    have hh := t.high
    have c3 : ¬ ((j + 1 : Nat) : Int) < ((rdOf ByteArray.empty p (i : Int)).size : Int) := by rw [t.size i hi]; omega
    conv => lhs; unfold L12.spec_l4Length.l1
    rw [if_pos (by omega), if_pos (by omega), if_neg c3, wsucc (by omega)]
    rfl
  | succ d ih =>
    intro j n hj hn
    obtain ⟨m1, h1, h2, h3⟩ := len_step t a b (n := n) hi (show j + 1 < w by omega) (by omega)
    obtain ⟨m2, k1, k2, k3⟩ := ih (j + 1) (n + m1) (by omega) (by omega)
    refine ⟨m1 + m2, by omega, ⟨fun hp => ?_, ?_⟩, fun R hR => (k3 R (by rwa [Nat.add_assoc])).step fun k => h3 k⟩
    · by_cases hm : 0 < m1
      · exact ⟨j, Nat.le_refl _, by omega, h2.1 hm⟩
      · obtain ⟨j', q1, q2, q3⟩ := k2.1 (by omega)
        exact ⟨j', by omega, q2, q3⟩
    · rintro ⟨j', q1, q2, q3⟩
      by_cases e : j' = j
      · subst e
        have := h2.2 q3
        omega
      · have := k2.2 ⟨j', by omega, q2, q3⟩
        omega
theorem lenb {m1 m2 d w : Nat} (h1 : m1 ≤ w - 1) (k1 : m2 ≤ d * 6) (hw : 1 ≤ w ∧ w ≤ 6) : m1 + m2 ≤ (d + 1) * 6 := by omega
theorem len_all {p : List ByteArray} {h w : Nat} {G : Nat → Nat → Int} (t : TG p h w G) (a b : Int) :
    ∀ d i n, i + d = h → n + d * 6 ≤ 900 → ∃ m, m ≤ d * 6 ∧ (0 < m ↔ ∃ i' j', i ≤ i' ∧ i' < h ∧ j' + 1 < w ∧ hitG G a b i' j') ∧ Ev (fun k => L12.spec_l4Length.l0 k p a b (n : Int) (i : Int)) ((n + m : Nat) : Int) := by
  have hw := t.wide
  have hl := t.len
  intro d
  induction d with
  | zero =>
    intro i n hi hn
    refine ⟨0, by omega, ⟨fun h => absurd h (by omega), fun ⟨i', j', h1, h2, _⟩ => by omega⟩, Ev.now fun k => ?_⟩
    unfold L12.spec_l4Length.l0
    rw [if_neg (by omega)]
    rfl
  | succ d ih =>
    intro i n hi hn
    obtain ⟨m1, h1, h2, h3⟩ := len_row t a b (show i < h by omega) (w - 1) 0 n (by omega) (by omega)
    obtain ⟨m2, k1, k2, k3⟩ := ih (i + 1) (n + m1) (by omega) (by omega)
    refine ⟨m1 + m2, lenb h1 k1 hw, ⟨fun hp => ?_, ?_⟩, ?_⟩
    · by_cases hm : 0 < m1
      · obtain ⟨j', q1, q2, q3⟩ := h2.1 hm
        exact ⟨i, j', Nat.le_refl _, by omega, q2, q3⟩
      · obtain ⟨i', j', q1, q2, q3, q4⟩ := k2.1 (by omega)
        exact ⟨i', j', by omega, q2, q3, q4⟩
    · rintro ⟨i', j', q1, q2, q3, q4⟩
      by_cases e : i' = i
      · subst e
        have := h2.2 ⟨j', by omega, q3, q4⟩
        omega
      · have := k2.2 ⟨i', j', by omega, q2, q3, q4⟩
        omega
    · refine (h3 _ (by rw [← Nat.add_assoc]; exact k3)).step fun k => ?_
      conv => lhs; unfold L12.spec_l4Length.l0
      rw [if_pos (by omega)]
      rfl
theorem length_f {p : List ByteArray} {h w : Nat} {G : Nat → Nat → Int} (t : TG p h w G) (a b : Int) : ∃ m : Nat, m ≤ 36 ∧ (0 < m ↔ ∃ i j, i < h ∧ j + 1 < w ∧ hitG G a b i j) ∧ Ev (fun k => L12.spec_l4Length.f k p a b) (m : Int) := by
  have hh := t.high
  obtain ⟨m, h1, h2, h3⟩ := len_all t a b h 0 0 (by omega) (by omega)
  refine ⟨m, by omega, ⟨fun hp => ?_, ?_⟩, by rw [Nat.zero_add] at h3; exact h3⟩
  · obtain ⟨i', j', _, q2, q3, q4⟩ := h2.1 hp
    exact ⟨i', j', q2, q3, q4⟩
  · rintro ⟨i', j', q2, q3, q4⟩
    exact h2.2 ⟨i', j', by omega, q2, q3, q4⟩
theorem wsum {x y : Nat} (hx : x ≤ 36) (hy : y ≤ 36) : wrap64 ((x : Int) + (y : Int)) = ((x + y : Nat) : Int) := by unfold wrap64; omega
theorem beside_f {p : List ByteArray} (hpl : planG p = true) (a b : Nat) : ∃ m : Nat, m ≤ 72 ∧ decide (0 < m) = nbP p a b ∧ Ev (fun k => L12.spec_l4Beside.f k p (a : Int) (b : Int)) (m : Int) := by
  have t := planTG hpl
  by_cases hab : a = b
  · subst hab
    refine ⟨0, by omega, ?_, ⟨0, fun k _ => ?_⟩⟩
    · cases h : nbP p a a with
      | false => rfl
      | true => exact absurd rfl ((nbB_iff.1 h).1)
    · show L12.spec_l4Beside.f k p _ _ = _
      unfold L12.spec_l4Beside.f
      rw [if_pos rfl]; rfl
  · obtain ⟨m1, a1, a2, a3⟩ := length_f t (a : Int) (b : Int)
    have tt := trans_TG t
    obtain ⟨m2, b1, b2, b3⟩ := length_f tt (a : Int) (b : Int)
    have htr : spec_l1Trans.f p = some (transT p.length (wdP p) (gridOf (clP p) 0 0)) := tot_ev (trans_f t)
    refine ⟨m1 + m2, by omega, ?_, ?_⟩
    · rw [Bool.eq_iff_iff, decide_eq_true_iff]
      show _ ↔ nbB (clP p) p.length (wdP p) a b = true
      rw [nbB_iff]
      have g : ∀ i j (x : Nat), gridOf (clP p) 0 0 i j - 97 = (x : Int) ↔ clP p i j = (x : Int) := fun i j x => by
        unfold gridOf
        rw [Nat.zero_add, Nat.zero_add]; omega
      have e1 : (0 < m1 + m2) ↔ (0 < m1 ∨ 0 < m2) := by omega
      rw [e1, a2, b2]
      unfold BesideC hitG
      constructor
      · rintro (⟨i, j, h1, h2, h3⟩ | ⟨i, j, h1, h2, h3⟩)
        · refine ⟨hab, .inl ⟨i, j, h1, h2, ?_⟩⟩
          rwa [g, g, g, g] at h3
        · refine ⟨hab, .inr ⟨j, i, h2, h1, ?_⟩⟩
          rwa [g, g, g, g] at h3
      · rintro ⟨_, ⟨i, j, h1, h2, h3⟩ | ⟨i, j, h1, h2, h3⟩⟩
        · refine .inl ⟨i, j, h1, h2, ?_⟩
          rwa [g, g, g, g]
        · refine .inr ⟨j, i, h2, h1, ?_⟩
          rwa [g, g, g, g]
    · refine Ev.same (Ev.bind (F := fun k (t104 : Int) => (L12.spec_l4Length.f k (transT p.length (wdP p) (gridOf (clP p) 0 0)) a b).bind fun t108 => some (wrap64 (t104 + t108))) a3 (Ev.bind (F := fun k (t108 : Int) => some (wrap64 ((m1 : Int) + t108))) b3 (by rw [wsum a1 b1]; exact Ev.const _))) fun k => ?_
      unfold L12.spec_l4Beside.f
      rw [if_neg (show ¬ (a : Int) = (b : Int) from fun e => hab (Int.ofNat.inj e)), htr]
      rfl
theorem rooms_some {p : List ByteArray} (hpl : planG p = true) : spec_l1Rooms.f p = some (roomN p : Int) := tot_ev (plan_roomsE hpl)
theorem of_l0 {p : List ByteArray} (hpl : planG p = true) (a : Nat) : ∀ d b, b + d = roomN p → Ev (fun k => L12.spec_l4Of.l0 k p (a : Int) (nearTo (nbP p) a b) (b : Int)) (nearTo (nbP p) a (roomN p)) := by
  have hr := rooms_some hpl
  have hn := roomN_pos hpl
  intro d
  induction d with
  | zero =>
    intro b hb
    refine Ev.now fun k => ?_
    unfold L12.spec_l4Of.l0
    rw [hr, Option.bind_some, if_neg (by omega), show b = roomN p by omega]
  | succ d ih =>
    intro b hb
    obtain ⟨m, h1, h2, h3⟩ := beside_f hpl a b
    have hE := ih (b + 1) (by omega)
    rw [nearTo_succ] at hE
    have hlen := nearTo_len (nbP p) a b
    refine Ev.stepBind (F := fun k (t119 : Int) => (if t119 > 0 then (if (nearTo (nbP p) a b).length < 17592186044416 then (L12.spec_l4Of.l0 k p (a : Int) (nearTo (nbP p) a b ++ [(b : Int)]) ((b + 1 : Nat) : Int)) else (none)) else (L12.spec_l4Of.l0 k p (a : Int) (nearTo (nbP p) a b) ((b + 1 : Nat) : Int)))) h3 (fun k => ?_) ?_
    · conv => lhs; unfold L12.spec_l4Of.l0
      rw [hr, Option.bind_some, if_pos (by omega), wsucc (by omega)]
    · cases hb2 : nbP p a b with
      | true =>
        rw [hb2, if_pos rfl] at hE
        rw [hb2] at h2
        have hm : 0 < m := of_decide_eq_true h2
        simp only [if_pos (show (m : Int) > 0 by omega), if_pos (show (nearTo (nbP p) a b).length < 17592186044416 by omega)]
        exact hE
      | false =>
        rw [hb2, if_neg (by simp)] at hE
        rw [hb2] at h2
        have hm : ¬ 0 < m := of_decide_eq_false h2
        simp only [if_neg (show ¬ (m : Int) > 0 by omega)]
        exact hE
theorem of_f {p : List ByteArray} (hpl : planG p = true) (a : Nat) : Ev (fun k => L12.spec_l4Of.f k p (a : Int)) (nearTo (nbP p) a (roomN p)) := of_l0 hpl a (roomN p) 0 (by omega)
end Go.Proofs.Ytbpppchkgjcahaa
end
