/- Texts of this claim's, joined by a program: ESpecNear, ESpecSteps, EContI. -/
import Derived.Test.YtbpppchkgjcahaaKEL12x
import Derived.Test.YtbpppchkgjcahaaKEShelf2M
import Derived.Test.YtbpppchkgjcahaaKEFloorRM
import Derived.Deep.RegionHeld3
import Derived.Test.YtbpppchkgjcahaaKECodeRowM
import Derived.Test.YtbpppchkgjcahaaKEContains
import Derived.Deep.QuietTactic
import Derived.BigQuiet
section
namespace Go.Proofs.Ytbpppchkgjcahaa
open Go.RowKit Go.Shelf Go.Proofs.YtbpppchkgjcahaaW.PrintWords Go.Proofs.YtbpppchkgjcahaaW.PrintMore
set_option linter.unusedVariables false
set_option linter.unusedSimpArgs false
theorem wlet (v : Int) (h : 97 ≤ v ∧ v ≤ 122) : wrap64 (wrap64 v - 97) = v - 97 := by unfold wrap64; omega
theorem wpred (j : Nat) (h : j ≤ 1000) : wrap64 (((j + 1 : Nat) : Int) - 1) = (j : Int) := by unfold wrap64; omega
def hitG (G : Nat → Nat → Int) (a b : Int) (i j : Nat) : Prop := (G i j - 97 = a ∧ G i (j + 1) - 97 = b) ∨ (G i j - 97 = b ∧ G i (j + 1) - 97 = a)
theorem len_step {p : List ByteArray} {h w : Nat} {G : Nat → Nat → Int} (t : TG p h w G) (a b : Int) {i j n : Nat} (hi : i < h) (hj : j + 1 < w) (hn : n ≤ 1000) :
    ∃ m, m ≤ 1 ∧ (0 < m ↔ hitG G a b i j) ∧ ∀ k, L12.spec_l4Length.l1 (k + 1) p a b (n : Int) (i : Int) ((j + 1 : Nat) : Int) = L12.spec_l4Length.l1 k p a b ((n + m : Nat) : Int) (i : Int) ((j + 1 + 1 : Nat) : Int) := by
  have hl := t.len
  have hs := t.size i hi
  have hw := t.wide
  have e1 := t.cell i j hi (by omega)
  have e2 := t.cell i (j + 1) hi hj
  have g1 := t.let_ i j hi (by omega)
  have g2 := t.let_ i (j + 1) hi hj
  have c1 : (0 : Int) ≤ (i : Int) := by omega
  have c2 : (i : Int) < (p.length : Int) := by omega
  have c3 : ((j + 1 : Nat) : Int) < ((rdOf ByteArray.empty p (i : Int)).size : Int) := by rw [hs]; omega
  have c4 : (0 : Int) ≤ (j : Int) := by omega
  have c5 : (j : Int) < ((rdOf ByteArray.empty p (i : Int)).size : Int) := by rw [hs]; omega
  have c6 : (0 : Int) ≤ ((j + 1 : Nat) : Int) := by omega
  have w1 := wpred j (by omega)
  have w2 := wlet _ g1
  have w3 := wlet _ g2
  have w4 : wrap64 (((j + 1 : Nat) : Int) + 1) = ((j + 1 + 1 : Nat) : Int) := wsucc (by omega)
  have w5 : wrap64 ((n : Int) + 1) = ((n + 1 : Nat) : Int) := wsucc (by omega)
  have hU : ∀ k, L12.spec_l4Length.l1 (k + 1) p a b (n : Int) (i : Int) ((j + 1 : Nat) : Int) = if G i j - 97 = a then (if G i (j + 1) - 97 = b then L12.spec_l4Length.l1 k p a b ((n + 1 : Nat) : Int) (i : Int) ((j + 1 + 1 : Nat) : Int) else (if G i j - 97 = b then (if G i (j + 1) - 97 = a then L12.spec_l4Length.l1 k p a b ((n + 1 : Nat) : Int) (i : Int) ((j + 1 + 1 : Nat) : Int) else L12.spec_l4Length.l1 k p a b (n : Int) (i : Int) ((j + 1 + 1 : Nat) : Int)) else L12.spec_l4Length.l1 k p a b (n : Int) (i : Int) ((j + 1 + 1 : Nat) : Int))) else (if G i j - 97 = b then (if G i (j + 1) - 97 = a then L12.spec_l4Length.l1 k p a b ((n + 1 : Nat) : Int) (i : Int) ((j + 1 + 1 : Nat) : Int) else L12.spec_l4Length.l1 k p a b (n : Int) (i : Int) ((j + 1 + 1 : Nat) : Int)) else L12.spec_l4Length.l1 k p a b (n : Int) (i : Int) ((j + 1 + 1 : Nat) : Int)) := fun k => by
    conv => lhs; unfold L12.spec_l4Length.l1
    rw [if_pos c1, if_pos c2, if_pos c3, w1, if_pos c4, if_pos c5, if_pos c6, e1, e2, w2, w3, w4, w5]
  by_cases h1 : G i j - 97 = a ∧ G i (j + 1) - 97 = b
  · refine ⟨1, Nat.le_refl _, ⟨fun _ => .inl h1, fun _ => by omega⟩, fun k => ?_⟩
    rw [hU k, if_pos h1.1, if_pos h1.2]
  · by_cases h2 : G i j - 97 = b ∧ G i (j + 1) - 97 = a
    · refine ⟨1, Nat.le_refl _, ⟨fun _ => .inr h2, fun _ => by omega⟩, fun k => ?_⟩
      rw [hU k]
      by_cases h3 : G i j - 97 = a
      · rw [if_pos h3, if_neg (fun h => h1 ⟨h3, h⟩), if_pos h2.1, if_pos h2.2]
      · rw [if_neg h3, if_pos h2.1, if_pos h2.2]
    · refine ⟨0, by omega, ⟨fun h => absurd h (by omega), fun h => absurd h (fun hh => hh.elim h1 h2)⟩, fun k => ?_⟩
      rw [hU k]
      by_cases h3 : G i j - 97 = a
      · rw [if_pos h3, if_neg (fun h => h1 ⟨h3, h⟩)]
        by_cases h4 : G i j - 97 = b
        · rw [if_pos h4, if_neg (fun h => h2 ⟨h4, h⟩)]; rfl
        · rw [if_neg h4]; rfl
      · rw [if_neg h3]
        by_cases h4 : G i j - 97 = b
        · rw [if_pos h4, if_neg (fun h => h2 ⟨h4, h⟩)]; rfl
        · rw [if_neg h4]; rfl
theorem len_row {p : List ByteArray} {h w : Nat} {G : Nat → Nat → Int} (t : TG p h w G) (a b : Int) {i : Nat} (hi : i < h) :
    ∀ d j n, j + 1 + d = w → n + d ≤ 1000 → ∃ m, m ≤ d ∧ (0 < m ↔ ∃ j', j ≤ j' ∧ j' + 1 < w ∧ hitG G a b i j') ∧ ∀ R, Ev (fun k => L12.spec_l4Length.l0 k p a b ((n + m : Nat) : Int) ((i + 1 : Nat) : Int)) R → Ev (fun k => L12.spec_l4Length.l1 k p a b (n : Int) (i : Int) ((j + 1 : Nat) : Int)) R := by
  intro d
  induction d with
  | zero =>
    intro j n hj hn
    refine ⟨0, Nat.le_refl _, ⟨fun h => absurd h (by omega), fun ⟨j', h1, h2, _⟩ => by omega⟩, fun R hR => hR.step fun k => ?_⟩
    have hl := t.len
    have hh := t.high
    have c3 : ¬ ((j + 1 : Nat) : Int) < ((rdOf ByteArray.empty p (i : Int)).size : Int) := by rw [t.size i hi]; omega
    conv => lhs; unfold L12.spec_l4Length.l1
    rw [if_pos (by omega), if_pos (by omega), if_neg c3, wsucc (by omega)]
    rfl
  | succ d ih =>
    intro j n hj hn
    obtain ⟨m1, h1, h2, h3⟩ := len_step t a b (n := n) hi (show j + 1 < w by omega) (by omega)
    obtain ⟨m2, k1, k2, k3⟩ := ih (j + 1) (n + m1) (by omega) (by omega)
    refine ⟨m1 + m2, by omega, ⟨fun hp => ?_, ?_⟩, fun R hR => (k3 R (by rwa [Nat.add_assoc])).step fun k => h3 k⟩
    · by_cases hm : 0 < m1
      · exact ⟨j, Nat.le_refl _, by omega, h2.1 hm⟩
      · obtain ⟨j', q1, q2, q3⟩ := k2.1 (by omega)
        exact ⟨j', by omega, q2, q3⟩
    · rintro ⟨j', q1, q2, q3⟩
      by_cases e : j' = j
      · subst e
        have := h2.2 q3
        omega
      · have := k2.2 ⟨j', by omega, q2, q3⟩
        omega
theorem lenb {m1 m2 d w : Nat} (h1 : m1 ≤ w - 1) (k1 : m2 ≤ d * 6) (hw : 1 ≤ w ∧ w ≤ 6) : m1 + m2 ≤ (d + 1) * 6 := by omega
theorem len_all {p : List ByteArray} {h w : Nat} {G : Nat → Nat → Int} (t : TG p h w G) (a b : Int) :
    ∀ d i n, i + d = h → n + d * 6 ≤ 900 → ∃ m, m ≤ d * 6 ∧ (0 < m ↔ ∃ i' j', i ≤ i' ∧ i' < h ∧ j' + 1 < w ∧ hitG G a b i' j') ∧ Ev (fun k => L12.spec_l4Length.l0 k p a b (n : Int) (i : Int)) ((n + m : Nat) : Int) := by
  have hw := t.wide
  have hl := t.len
  intro d
  induction d with
  | zero =>
    intro i n hi hn
    refine ⟨0, by omega, ⟨fun h => absurd h (by omega), fun ⟨i', j', h1, h2, _⟩ => by omega⟩, Ev.now fun k => ?_⟩
    unfold L12.spec_l4Length.l0
    rw [if_neg (by omega)]
    rfl
  | succ d ih =>
    intro i n hi hn
    obtain ⟨m1, h1, h2, h3⟩ := len_row t a b (show i < h by omega) (w - 1) 0 n (by omega) (by omega)
    obtain ⟨m2, k1, k2, k3⟩ := ih (i + 1) (n + m1) (by omega) (by omega)
    refine ⟨m1 + m2, lenb h1 k1 hw, ⟨fun hp => ?_, ?_⟩, ?_⟩
    · by_cases hm : 0 < m1
      · obtain ⟨j', q1, q2, q3⟩ := h2.1 hm
        exact ⟨i, j', Nat.le_refl _, by omega, q2, q3⟩
      · obtain ⟨i', j', q1, q2, q3, q4⟩ := k2.1 (by omega)
        exact ⟨i', j', by omega, q2, q3, q4⟩
    · rintro ⟨i', j', q1, q2, q3, q4⟩
      by_cases e : i' = i
      · subst e
        have := h2.2 ⟨j', by omega, q3, q4⟩
        omega
      · have := k2.2 ⟨i', j', by omega, q2, q3, q4⟩
        omega
    · refine (h3 _ (by rw [← Nat.add_assoc]; exact k3)).step fun k => ?_
      conv => lhs; unfold L12.spec_l4Length.l0
      rw [if_pos (by omega)]
      rfl
theorem length_f {p : List ByteArray} {h w : Nat} {G : Nat → Nat → Int} (t : TG p h w G) (a b : Int) : ∃ m : Nat, m ≤ 36 ∧ (0 < m ↔ ∃ i j, i < h ∧ j + 1 < w ∧ hitG G a b i j) ∧ Ev (fun k => L12.spec_l4Length.f k p a b) (m : Int) := by
  have hh := t.high
  obtain ⟨m, h1, h2, h3⟩ := len_all t a b h 0 0 (by omega) (by omega)
  refine ⟨m, by omega, ⟨fun hp => ?_, ?_⟩, by rw [Nat.zero_add] at h3; exact h3⟩
  · obtain ⟨i', j', _, q2, q3, q4⟩ := h2.1 hp
    exact ⟨i', j', q2, q3, q4⟩
  · rintro ⟨i', j', q2, q3, q4⟩
    exact h2.2 ⟨i', j', by omega, q2, q3, q4⟩
theorem wsum {x y : Nat} (hx : x ≤ 36) (hy : y ≤ 36) : wrap64 ((x : Int) + (y : Int)) = ((x + y : Nat) : Int) := by unfold wrap64; omega
theorem beside_f {p : List ByteArray} (hpl : planG p = true) (a b : Nat) : ∃ m : Nat, m ≤ 72 ∧ decide (0 < m) = nbP p a b ∧ Ev (fun k => L12.spec_l4Beside.f k p (a : Int) (b : Int)) (m : Int) := by
  have t := planTG hpl
  by_cases hab : a = b
  · subst hab
    refine ⟨0, by omega, ?_, ⟨0, fun k _ => ?_⟩⟩
    · cases h : nbP p a a with
      | false => rfl
      | true => exact absurd rfl ((nbB_iff.1 h).1)
    · show L12.spec_l4Beside.f k p _ _ = _
      unfold L12.spec_l4Beside.f
      rw [if_pos rfl]; rfl
  · obtain ⟨m1, a1, a2, a3⟩ := length_f t (a : Int) (b : Int)
    have tt := trans_TG t
    obtain ⟨m2, b1, b2, b3⟩ := length_f tt (a : Int) (b : Int)
    have htr : spec_l1Trans.f p = some (transT p.length (wdP p) (gridOf (clP p) 0 0)) := tot_ev (trans_f t)
    refine ⟨m1 + m2, by omega, ?_, ?_⟩
    · rw [Bool.eq_iff_iff, decide_eq_true_iff]
      show _ ↔ nbB (clP p) p.length (wdP p) a b = true
      rw [nbB_iff]
      have g : ∀ i j (x : Nat), gridOf (clP p) 0 0 i j - 97 = (x : Int) ↔ clP p i j = (x : Int) := fun i j x => by
        unfold gridOf
        rw [Nat.zero_add, Nat.zero_add]; omega
      have e1 : (0 < m1 + m2) ↔ (0 < m1 ∨ 0 < m2) := by omega
      rw [e1, a2, b2]
      unfold BesideC hitG
      constructor
      · rintro (⟨i, j, h1, h2, h3⟩ | ⟨i, j, h1, h2, h3⟩)
        · refine ⟨hab, .inl ⟨i, j, h1, h2, ?_⟩⟩
          rwa [g, g, g, g] at h3
        · refine ⟨hab, .inr ⟨j, i, h2, h1, ?_⟩⟩
          rwa [g, g, g, g] at h3
      · rintro ⟨_, ⟨i, j, h1, h2, h3⟩ | ⟨i, j, h1, h2, h3⟩⟩
        · refine .inl ⟨i, j, h1, h2, ?_⟩
          rwa [g, g, g, g]
        · refine .inr ⟨j, i, h2, h1, ?_⟩
          rwa [g, g, g, g]
    · refine Ev.same (Ev.bind (F := fun k (t104 : Int) => (L12.spec_l4Length.f k (transT p.length (wdP p) (gridOf (clP p) 0 0)) a b).bind fun t108 => some (wrap64 (t104 + t108))) a3 (Ev.bind (F := fun k (t108 : Int) => some (wrap64 ((m1 : Int) + t108))) b3 (by rw [wsum a1 b1]; exact Ev.const _))) fun k => ?_
      unfold L12.spec_l4Beside.f
      rw [if_neg (show ¬ (a : Int) = (b : Int) from fun e => hab (Int.ofNat.inj e)), htr]
      rfl
theorem rooms_some {p : List ByteArray} (hpl : planG p = true) : spec_l1Rooms.f p = some (roomN p : Int) := tot_ev (plan_roomsE hpl)
end Go.Proofs.Ytbpppchkgjcahaa
end
section
namespace Go.Proofs.Ytbpppchkgjcahaa
open Go.RowKit Go.Shelf Go.Proofs.YtbpppchkgjcahaaW.PrintWords Go.Proofs.YtbpppchkgjcahaaW.PrintMore
set_option linter.unusedVariables false
set_option linter.unusedSimpArgs false
def NumsC (W : World) (g n : Nat) (o : Nat → Int) : Prop := ∃ cs : Array Value, W.heap[g]? = some (.cells cs 3 (0, 0)) ∧ n ≤ cs.size ∧ ∀ j, j < n → cs[j]? = some (.int .i64 (o j))
theorem NumsC.lt {W : World} {g n : Nat} {o : Nat → Int} (h : NumsC W g n o) : g < W.heap.size := by
  obtain ⟨cs, h1, _⟩ := h
  exact (Array.getElem?_eq_some_iff.1 h1).1
theorem NumsC.at {W : World} {g n : Nat} {o : Nat → Int} (h : NumsC W g n o) {b : Nat} (hb : b < n) : W.cell? ⟨g, b, none⟩ = some (.int .i64 (o b)) ∧ W.frozen? ⟨g, b, none⟩ = false := by
  obtain ⟨cs, h1, h2, h3⟩ := h
  exact ⟨by rw [Lib.cell_of_heap h1]; exact h3 b hb, Lib.frozen_of_heap h1 b⟩
theorem NumsC.keep {W W' : World} {g n : Nat} {o : Nat → Int} (h : NumsC W g n o) (hk : W'.heap[g]? = W.heap[g]?) : NumsC W' g n o := by
  obtain ⟨cs, h1, h2⟩ := h
  exact ⟨cs, by rw [hk]; exact h1, h2⟩
theorem NumsC.set {W : World} {g n : Nat} {o : Nat → Int} (h : NumsC W g n o) {b : Nat} (hb : b < n) (v : Int) : NumsC (W.setCell ⟨g, b, none⟩ (.int .i64 v)) g n (fun x => if x = b then v else o x) := by
  obtain ⟨cs, h1, h2, h3⟩ := h
  refine ⟨_, blk_set h1 b (.int .i64 v), by rw [Array.size_setIfInBounds]; exact h2, fun j hj => ?_⟩
  rw [Array.getElem?_setIfInBounds]
  show _ = some (Value.int .i64 (if j = b then v else o j))
  by_cases e : j = b
  · subst e; rw [if_pos rfl, if_pos (by omega), if_pos rfl]
  · rw [if_neg (fun hh => e hh.symm), if_neg e]; exact h3 j hj
theorem NumsC.same {W : World} {g n : Nat} {o o' : Nat → Int} (h : NumsC W g n o) (e : ∀ x, x < n → o x = o' x) : NumsC W g n o' := by
  obtain ⟨cs, h1, h2, h3⟩ := h
  exact ⟨cs, h1, h2, fun j hj => by rw [← e j hj]; exact h3 j hj⟩
end Go.Proofs.Ytbpppchkgjcahaa
end
section
namespace Go.Proofs.Ytbpppchkgjcahaa
open Go.RowKit Go.Shelf Go.Proofs.YtbpppchkgjcahaaW.PrintWords Go.Proofs.YtbpppchkgjcahaaW.PrintMore
set_option linter.unusedVariables false
set_option linter.unusedSimpArgs false
set_option maxRecDepth 100000 in
set_option maxHeartbeats 4000000 in
theorem indexI_dr (A : Option Addr) (h ch : Nat) (hh : h ≤ 1000) (hch : h ≤ ch) (vals : Nat → Value) (p : Nat → Bool) (cl : Nat) (cap : Array Value) (w : World) (hcells : ∀ r, r < h → ∃ gb, A = some ⟨gb, 0, none⟩ ∧ w.cell? ⟨gb, r, none⟩ = some (vals r)) (hent : ∀ args W, (callFunc cl args).run Try.prog W = .ok (.enter cl args) W)
    (hcall : ∀ r q, r < h → Calls Try.prog cl (#[vals r] ++ cap) (w.drewN q) fun e w' => e = .returned (.bool (p r)) ∧ ∃ q', w' = w.drewN q') :
    Calls Try.prog 182 #[.slice A h ch, .func (.func cl) #[] cap] w fun e w' => Tells h p e ∧ ∃ q, w' = w.drewN q := by
  have HC := Aside0.mk hcells
  have HF := Aside0.mk hcall
  clear hcells hcall
  go_enter Try.func182, Try.ntmps182
  go_wp2
  go_loopg [8] h (fun g s8 wr => ∃ r q : Nat, s8 = .int .i64 r ∧ r ≤ h ∧ h - r ≤ g ∧ wr = w.drewN q ∧ Aside0 (∀ k, k < r → p k = false))
  case atStart => exact ⟨0, 0, rfl, by omega, by omega, rfl, ⟨fun k hk => absurd hk (by omega)⟩⟩
  case round =>
    obtain ⟨r, q, rfl, hr, hg, rfl, HP⟩ := hrel
    by_cases hlt : (r : Int) < (h : Int)
    · obtain ⟨gb, hA, hc⟩ := HC.out r (by omega)
      subst hA
      have hch2 : (h : Int) ≤ (ch : Int) := by omega
      have hr0 : (0 : Int) ≤ (r : Int) := by omega
      cases hp : p r with
      | true =>
        go_wp2_with (refine Calls.mono (HF.out r q (by omega)) ?_; rintro e w' ⟨rfl, q2, rfl⟩; rw [hp])
        go_ret
        exact ⟨⟨_, rfl, by rw [any_upto (by omega) hp]; exact decide_eq_true hr0⟩, _, rfl⟩
      | false =>
        go_wp2_with (refine Calls.mono (HF.out r q (by omega)) ?_; rintro e w' ⟨rfl, q2, rfl⟩; rw [hp])
        go_roundg (h - (r + 1))
        case measure => omega
        case rel => exact ⟨r + 1, q2, by go_num, by omega, Nat.le_refl _, rfl, ⟨fun k hk => if e : k = r then by rw [e]; exact hp else HP.out k (by omega)⟩⟩
    · have hrh : r = h := by omega
      subst hrh
      go_wp2
      go_ret
      refine ⟨⟨_, rfl, ?_⟩, _, rfl⟩
      have : (List.range r).any p = false := by
        rw [List.any_eq_false]
        intro k hk
        rw [HP.out k (List.mem_range.1 hk)]; simp
      rw [this]; rfl
theorem containsI_dr (A : Option Addr) (h ch : Nat) (hh : h ≤ 1000) (hch : h ≤ ch) (vals : Nat → Value) (p : Nat → Bool) (cl : Nat) (cap : Array Value) (w : World) (hcells : ∀ r, r < h → ∃ gb, A = some ⟨gb, 0, none⟩ ∧ w.cell? ⟨gb, r, none⟩ = some (vals r)) (hent : ∀ args W, (callFunc cl args).run Try.prog W = .ok (.enter cl args) W)
    (hcall : ∀ r q, r < h → Calls Try.prog cl (#[vals r] ++ cap) (w.drewN q) fun e w' => e = .returned (.bool (p r)) ∧ ∃ q', w' = w.drewN q') :
    Calls Try.prog 146 #[.slice A h ch, .func (.func cl) #[] cap] w fun e w' => e = .returned (.bool ((List.range h).any p)) ∧ ∃ q, w' = w.drewN q := by
  have HI := indexI_dr A h ch hh hch vals p cl cap w hcells hent hcall
  clear hcells hcall hent
  go_enter Try.func146, Try.ntmps146
  go_wp2_with fail
  refine HI.mono ?_
  rintro e w' ⟨⟨k, rfl, hk⟩, q, rfl⟩
  have HK := Aside0.mk hk
  clear hk
  go_wp2_with fail
  go_ret
  exact ⟨by rw [← HK.out]; rfl, _, rfl⟩
set_option maxRecDepth 100000 in
set_option maxHeartbeats 4000000 in
set_option maxRecDepth 100000 in
set_option maxHeartbeats 4000000 in
theorem clash_any (ab bo cb qg cap c : Nat) (L : List Nat) (w : World) (ha : w.cell? ⟨ab, 0, none⟩ = some (.int .i64 (L.length : Int))) (ho : w.cell? ⟨bo, 0, none⟩ = some (.slice (some ⟨qg, 0, none⟩) L.length cap)) (hcb : w.cell? ⟨cb, 0, none⟩ = some (.int .i64 (c : Int))) (hcap : L.length ≤ cap) (hrow : ∀ j (hj : j < L.length), w.cell? ⟨qg, j, none⟩ = some (.int .i64 ((L[j] : Nat) : Int))) (b : Nat) :
    Calls Try.prog 145 #[.int .i64 (b : Int), .pointer (some ⟨ab, 0, none⟩), .pointer (some ⟨bo, 0, none⟩), .pointer (some ⟨cb, 0, none⟩)] w fun e w' => e = .returned (.bool (clashAt L c b)) ∧ ∃ q', w' = w.drewN q' := by
  have b0 : (0 : Int) ≤ (b : Int) := by omega
  have hcap2 : (L.length : Int) ≤ (cap : Int) := by omega
  by_cases hb : b < L.length
  · have hr := hrow b hb
    have hget : L.getD b 0 = L[b] := by rw [List.getD_eq_getElem?_getD, List.getElem?_eq_getElem hb]; rfl
    have HV : Aside0 (clashAt L c b = (L[b] == c)) := ⟨by unfold clashAt; rw [decide_eq_true hb, Bool.true_and, hget]⟩
    obtain ⟨v, hv⟩ : ∃ v, L[b] = v := ⟨_, rfl⟩
    rw [hv] at hr HV
    obtain ⟨n, hn⟩ : ∃ n, L.length = n := ⟨_, rfl⟩
    rw [hn] at ha ho hcap hcap2 hb
    have hlt : (b : Int) < (n : Int) := by omega
    clear hrow hget hv hn
    by_cases e : v = c
    · have HV2 : Aside0 (clashAt L c b = true) := ⟨by rw [HV.out, e]; simp⟩
      have he : ((v : Int) == (c : Int)) = true := by rw [beq_iff_eq, e]
      clear e
      go_enter Try.func145, Try.ntmps145
      go_wp2_with fail
      go_quiet (fail)
      go_wp2_with fail
      go_ret
      exact ⟨by rw [HV2.out]; rfl, _, rfl⟩
    · have HV2 : Aside0 (clashAt L c b = false) := ⟨by rw [HV.out]; simp [e]⟩
      have he : ((v : Int) == (c : Int)) = false := by rw [beq_eq_false_iff_ne]; omega
      clear e
      go_enter Try.func145, Try.ntmps145
      go_wp2_with fail
      go_quiet (fail)
      go_wp2_with fail
      go_ret
      exact ⟨by rw [HV2.out]; rfl, _, rfl⟩
  · have HV2 : Aside0 (clashAt L c b = false) := ⟨by unfold clashAt; rw [decide_eq_false hb]; rfl⟩
    obtain ⟨n, hn⟩ : ∃ n, L.length = n := ⟨_, rfl⟩
    rw [hn] at ha ho hcap hcap2 hb
    have hlt : ¬ (b : Int) < (n : Int) := by omega
    clear hrow hn
    go_enter Try.func145, Try.ntmps145
    go_wp2_with fail
    go_quiet (fail)
    go_wp2_with fail
    go_ret
    exact ⟨by rw [HV2.out]; rfl, _, rfl⟩
theorem enter_clash (args : Array Value) (W : World) : (callFunc 145 args).run Try.prog W = .ok (.enter 145 args) W := by kernel_rfl
end Go.Proofs.Ytbpppchkgjcahaa
end
