/- The reference's parts and cut text are the program's. -/
import Derived.Test.YtiehiockjlhbcaaKFlat
namespace Go.Proofs.Ytiehiockjlhbcaa
open Go.RowKit Go.Shelf Go.Proofs.YtiehiockjlhbcaaW.PrintWords Go.Proofs.YtiehiockjlhbcaaW.PrintMore L3
set_option linter.unusedVariables false

def rowOf (p : List ByteArray) (i : Nat) : ByteArray := rdOf ByteArray.empty p (i : Int)
/-- Both parts of a cut. -/
def partsT (p : List ByteArray) (h : Nat) (x : Bool × Nat) : List ByteArray × List ByteArray :=
  if x.1 then ((List.range x.2).map (rowOf p), (List.range (h - x.2)).map fun i => rowOf p (x.2 + i))
  else ((List.range h).map fun i => (rowOf p i).extract 0 x.2, (List.range h).map fun i => (rowOf p i).extract x.2 (rowOf p i).size)
theorem parts_up {p : List ByteArray} {h w : Nat} {G : Nat → Nat → Int} (t : TG p h w G) (k : Nat) (hk : k ≤ w) :
    ∀ d i, i + d = h → Ev (fun n => spec_l3Parts.l0 n p 0 (k : Int) ((List.range i).map fun i => (rowOf p i).extract 0 k) ((List.range i).map fun i => (rowOf p i).extract k (rowOf p i).size) (i : Int)) (partsT p h (false, k)) := by
  have hl := t.len
  have hh := t.high
  have hw := t.wide
  intro d
  induction d with
  | zero =>
    intro i hi
    obtain rfl : i = h := by omega
    refine Ev.now fun n => ?_
    unfold spec_l3Parts.l0
    rw [if_neg (by omega)]; rfl
  | succ d ih =>
    intro i hi
    have hs := t.size i (by omega)
    have hE := ih (i + 1) (by omega)
    rw [List.range_succ, List.map_append, List.map_append] at hE
    refine hE.step fun n => ?_
    show spec_l3Parts.l0 (n + 1) p _ _ _ _ _ = _
    conv => lhs; unfold spec_l3Parts.l0
    rw [if_pos (by omega), if_pos rfl, if_pos (by omega), if_pos (by omega), if_pos (by omega), if_pos (by simp; omega), if_pos (by simp; omega), wsucc (by omega), Int.toNat_natCast]
    rfl
theorem parts_lv {p : List ByteArray} {h w : Nat} {G : Nat → Nat → Int} (t : TG p h w G) (k : Nat) (hk : k ≤ h) :
    ∀ d i, i + d = h → Ev (fun n => spec_l3Parts.l0 n p 1 (k : Int) ((List.range (min i k)).map (rowOf p)) ((List.range (i - k)).map fun i => rowOf p (k + i)) (i : Int)) (partsT p h (true, k)) := by
  have hl := t.len
  have hh := t.high
  have hw := t.wide
  intro d
  induction d with
  | zero =>
    intro i hi
    obtain rfl : i = h := by omega
    refine Ev.now fun n => ?_
    unfold spec_l3Parts.l0
    rw [if_neg (by omega), Nat.min_eq_right hk]; rfl
  | succ d ih =>
    intro i hi
    have hE := ih (i + 1) (by omega)
    by_cases hik : i < k
    · rw [Nat.min_eq_left (by omega), show i + 1 - k = i - k by omega, List.range_succ, List.map_append] at hE
      refine hE.step fun n => ?_
      show spec_l3Parts.l0 (n + 1) p _ _ _ _ _ = _
      conv => lhs; unfold spec_l3Parts.l0
      rw [if_pos (by omega), if_neg (by omega), if_pos (by omega), if_pos (by omega), if_pos (by simp; omega), wsucc (by omega), Nat.min_eq_left (by omega)]
      rfl
    · rw [Nat.min_eq_right (by omega), show i + 1 - k = (i - k) + 1 by omega, List.range_succ, List.map_append, List.map_singleton, show k + (i - k) = i by omega] at hE
      refine hE.step fun n => ?_
      show spec_l3Parts.l0 (n + 1) p _ _ _ _ _ = _
      conv => lhs; unfold spec_l3Parts.l0
      rw [if_pos (by omega), if_neg (by omega), if_neg (by omega), if_pos (by omega), if_pos (by simp; omega), wsucc (by omega), Nat.min_eq_right (by omega)]
      rfl
def kindI (b : Bool) : Int := if b then 1 else 0
theorem parts_f {p : List ByteArray} {h w : Nat} {G : Nat → Nat → Int} (t : TG p h w G) (x : Bool × Nat) (hx : x.2 ≤ if x.1 then h else w) : Ev (fun n => spec_l3Parts.f n p (kindI x.1) (x.2 : Int)) (partsT p h x) := by
  obtain ⟨b, k⟩ := x
  cases b with
  | true =>
    have := parts_lv t k hx h 0 (by omega)
    rw [Nat.zero_min, Nat.zero_sub] at this
    exact this
  | false => exact parts_up t k hx h 0 (by omega)
theorem parts_TG {p : List ByteArray} {h w : Nat} {G : Nat → Nat → Int} (t : TG p h w G) (k : Nat) (hk : 1 ≤ k ∧ k < w) : TG (partsT p h (false, k)).1 h k G ∧ TG (partsT p h (false, k)).2 h (w - k) fun i j => G i (k + j) := by
  have hw := t.wide
  have hs : ∀ i, i < h → (rowOf p i).size = w := t.size
  refine ⟨TG.made _ t.high (by omega) (fun i hi => by rw [ex_size (by omega) (by rw [hs i hi]; omega)]; rfl) (fun i j hi hj => ?_) (fun i j hi hj => t.let_ i j hi (by omega)), TG.made _ t.high (by omega) (fun i hi => by rw [ex_size (by rw [hs i hi]; omega) (Nat.le_refl _), hs i hi]) (fun i j hi hj => ?_) (fun i j hi hj => t.let_ i _ hi (by omega))⟩
  · rw [ex_bt (by rw [hs i hi]; omega) (by omega), Nat.zero_add]; exact t.cell i j hi (by omega)
  · rw [ex_bt (Nat.le_refl _) (by rw [hs i hi]; omega)]; exact t.cell i (k + j) hi (by omega)
theorem parts_TG2 {p : List ByteArray} {h w : Nat} {G : Nat → Nat → Int} (t : TG p h w G) (k : Nat) (hk : 1 ≤ k ∧ k < h) : TG (partsT p h (true, k)).1 k w G ∧ TG (partsT p h (true, k)).2 (h - k) w fun i j => G (k + i) j := by
  have hw := t.wide
  have hh := t.high
  refine ⟨TG.made _ (by omega) hw (fun i hi => t.size i (by omega)) (fun i j hi hj => t.cell i j (by omega) hj) (fun i j hi hj => t.let_ i j (by omega) hj), TG.made _ (by omega) hw (fun i hi => t.size (k + i) (by omega)) (fun i j hi hj => t.cell (k + i) j (by omega) hj) (fun i j hi hj => t.let_ _ j (by omega) hj)⟩
/-- A cut of a grid, among the cuts of the part. -/
theorem cutsG_in {G : Nat → Nat → Int} {h w : Nat} {x : Bool × Nat} (hx : x ∈ cutsG G h w) : 1 ≤ x.2 ∧ x.2 < if x.1 then h else w := by
  unfold cutsG at hx
  rcases List.mem_append.1 hx with hx | hx
  · obtain ⟨k, hk, rfl⟩ := List.mem_map.1 hx
    have := List.mem_range'_1.1 (List.mem_filter.1 hk).1
    simp only [Bool.false_eq_true, if_false]; omega
  · obtain ⟨k, hk, rfl⟩ := List.mem_map.1 hx
    have := List.mem_range'_1.1 (List.mem_filter.1 hk).1
    simp only [if_true]; omega
/-- A cut of a grid, further on. -/
def moveX (r c : Nat) (x : Bool × Nat) : Bool × Nat := (x.1, (if x.1 then r else c) + x.2)
/-- The texts of both parts. -/
theorem parts_grid {p : List ByteArray} {cl : Nat → Nat → Int} {r c ph pw : Nat} (t : TG p ph pw (gridOf cl r c)) {x : Bool × Nat} (hx : x ∈ cutsG (gridOf cl r c) ph pw) :
    TG (partsT p ph x).1 (oneR r c ph pw (moveX r c x)).2.2.1 (oneR r c ph pw (moveX r c x)).2.2.2 (gridOf cl (oneR r c ph pw (moveX r c x)).1 (oneR r c ph pw (moveX r c x)).2.1) ∧
    TG (partsT p ph x).2 (twoR r c ph pw (moveX r c x)).2.2.1 (twoR r c ph pw (moveX r c x)).2.2.2 (gridOf cl (twoR r c ph pw (moveX r c x)).1 (twoR r c ph pw (moveX r c x)).2.1) := by
  have hin := cutsG_in hx
  obtain ⟨b, k⟩ := x
  cases b with
  | true =>
    simp only [if_true] at hin
    obtain ⟨t1, t2⟩ := parts_TG2 t k hin
    simp only [oneR, twoR, moveX, if_true, show r + k - r = k by omega]
    refine ⟨t1, ?_⟩
    have e : gridOf cl (r + k) c = fun i j => gridOf cl r c (k + i) j := by
      funext i j
      unfold gridOf
      rw [Nat.add_assoc]
    rw [e]; exact t2
  | false =>
    simp only [Bool.false_eq_true, if_false] at hin
    obtain ⟨t1, t2⟩ := parts_TG t k hin
    simp only [oneR, twoR, moveX, Bool.false_eq_true, if_false, show c + k - c = k by omega]
    refine ⟨t1, ?_⟩
    have e : gridOf cl r (c + k) = fun i j => gridOf cl r c i (k + j) := by
      funext i j
      unfold gridOf
      rw [Nat.add_assoc]
    rw [e]; exact t2

theorem cap_letter (k : Nat) (hk : k ≤ 20) : strOfNums [((((97 + (k : Int)) - 97) % 256) + 65) % 256] = ⟨#[capL [(k : Int)]]⟩ := by
  unfold strOfNums capL
  rw [show ((((97 + (k : Int)) - 97) % 256) + 65) % 256 = 65 + (k : Int) by omega]
  rfl
theorem kind_cut (b : Bool) : 0 ≤ kindI b ∧ kindI b ≤ wrap64 (kindI b + 1) ∧ wrap64 (kindI b + 1) ≤ 2 := by
  unfold kindI wrap64
  cases b <;> simp
theorem let_cut (b : Bool) : (⟨#[118, 104]⟩ : ByteArray).extract (kindI b).toNat (wrap64 (kindI b + 1)).toNat = ⟨#[if b then 104 else 118]⟩ := by
  cases b with
  | true =>
    rw [show wrap64 (kindI true + 1) = 2 by unfold kindI wrap64; simp]
    rfl
  | false =>
    rw [show wrap64 (kindI false + 1) = 1 by unfold kindI wrap64; simp]
    rfl
/-- The reference's cut text. -/
theorem specText {cl : Nat → Nat → Int} {boxes : List Box} {h wd : Nat} (f : Flat cl boxes h wd) : ∀ (n : Nat), n ≤ 13 → ∀ (r c ph pw : Nat) (p : List ByteArray), ph + pw < n → Whole cl h wd r c ph pw → TG p ph pw (gridOf cl r c) →
    ∃ s : ByteArray, Ev (fun k => spec_l3Text.f k p) (s, (textL cl boxes n (r, c, ph, pw)).isSome) ∧ s.size + 1 ≤ 2 ^ n ∧ ∀ x, textL cl boxes n (r, c, ph, pw) = some x → s = ⟨x.toArray⟩ := by
  intro n
  induction n with
  | zero => intro _ r c ph pw p h0; omega
  | succ n ih =>
    intro hn r c ph pw p hlt hw t
    have hs := hw.some
    have hl := t.len
    have hs0 := t.size 0 (by omega)
    rw [show ((0 : Nat) : Int) = 0 from rfl] at hs0
    have hpow : 1 ≤ 2 ^ n := Nat.one_le_two_pow
    have hpw13 : 2 ^ n ≤ 2 ^ 12 := Nat.pow_le_pow_right (by omega) (by omega)
    have hone := one_f t
    rw [grid_one f hw] at hone
    by_cases h1 : (listL boxes (natB r c ph pw) boxes.length).length = 1
    · rw [textL_one h1, list_head f hw h1]
      rw [decide_eq_true h1] at hone
      obtain ⟨q, hq, hcq⟩ := f.num r c (by have := hw.row; omega) (by have := hw.col; omega)
      have hfew := f.few
      have hc0 := t.cell 0 0 (by omega) (by omega)
      rw [show ((0 : Nat) : Int) = 0 from rfl] at hc0
      unfold gridOf at hc0
      rw [Nat.add_zero, Nat.add_zero, hcq] at hc0
      refine ⟨⟨#[capL [(q : Int)]]⟩, ?_, ?_, ?_⟩
      · refine Ev.stepBind hone (fun k => by conv => lhs; unfold spec_l3Text.f) ?_
        simp only [if_true]
        rw [if_pos (by omega), if_pos (by omega), hc0, cap_letter q (by omega)]
        exact Ev.const _
      · rw [Nat.pow_succ]; show 1 + 1 ≤ _; omega
      · intro x hx
        obtain rfl := Option.some.inj hx
        rw [hcq]
    · rw [decide_eq_false h1] at hone
      have hcut := cut_f t
      have hcg := cuts_grid cl r c ph pw
      cases hx : (cutsG (gridOf cl r c) ph pw).head? with
      | none =>
        have hx2 : (cutsL cl r c ph pw).head? = none := by rw [hcg, List.head?_map, hx]; rfl
        rw [hx] at hcut
        rw [textL_none h1 hx2]
        refine ⟨⟨#[]⟩, ?_, ?_, fun x hx => by cases hx⟩
        · refine Ev.stepBind hone (fun k => by conv => lhs; unfold spec_l3Text.f) ?_
          simp only [Bool.false_eq_true, if_false]
          refine Ev.bind hcut ?_
          simp only [firstG, if_true]
          exact Ev.const _
        · rw [Nat.pow_succ]; show 0 + 1 ≤ _; omega
      | some x =>
        have hx2 : (cutsL cl r c ph pw).head? = some (moveX r c x) := by rw [hcg, List.head?_map, hx]; rfl
        rw [hx] at hcut
        have hxm := head_in hx2
        have hxg : x ∈ cutsG (gridOf cl r c) ph pw := List.mem_of_mem_head? (by rw [hx]; rfl)
        have hin := cutsG_in hxg
        obtain ⟨w1, w2⟩ := whole_parts f hw hxm
        obtain ⟨t1, t2⟩ := parts_grid t hxg
        have i1 := one_in hxm
        have i2 := two_in hxm
        obtain ⟨s1, e1, z1, y1⟩ := ih (by omega) _ _ _ _ _ (by have := i1.less; omega) w1 t1
        obtain ⟨s2, e2, z2, y2⟩ := ih (by omega) _ _ _ _ _ (by have := i2.less; omega) w2 t2
        have hkind : firstG (some x) = (kindI x.1, (x.2 : Int)) := rfl
        rw [hkind] at hcut
        have hp := parts_f t x (by cases hb : x.1 <;> rw [hb] at hin <;> simp at hin ⊢ <;> omega)
        rw [textL_some h1 hx2]
        obtain ⟨o1, ho1⟩ : ∃ o, textL cl boxes n (oneR r c ph pw (moveX r c x)) = o := ⟨_, rfl⟩
        obtain ⟨o2, ho2⟩ : ∃ o, textL cl boxes n (twoR r c ph pw (moveX r c x)) = o := ⟨_, rfl⟩
        rw [show textL cl boxes n ((oneR r c ph pw (moveX r c x)).1, (oneR r c ph pw (moveX r c x)).2.1, (oneR r c ph pw (moveX r c x)).2.2.1, (oneR r c ph pw (moveX r c x)).2.2.2) = o1 from ho1] at e1 y1
        rw [show textL cl boxes n ((twoR r c ph pw (moveX r c x)).1, (twoR r c ph pw (moveX r c x)).2.1, (twoR r c ph pw (moveX r c x)).2.2.1, (twoR r c ph pw (moveX r c x)).2.2.2) = o2 from ho2] at e2 y2
        rw [ho1, ho2]
        have hlet : (⟨#[118, 104]⟩ : ByteArray).extract (kindI x.1).toNat (wrap64 (kindI x.1 + 1)).toNat = ⟨#[letterL (moveX r c x)]⟩ := by
          exact let_cut x.1
        have hk2 : 0 ≤ kindI x.1 ∧ kindI x.1 ≤ wrap64 (kindI x.1 + 1) ∧ wrap64 (kindI x.1 + 1) ≤ 2 := by
          exact kind_cut x.1
        have hx0 : ¬ ((x.2 : Nat) : Int) = 0 := by omega
        refine ⟨(⟨#[letterL (moveX r c x)]⟩ ++ s1) ++ s2, ?_, ?_, ?_⟩
        · refine Ev.stepBind hone (fun k => by conv => lhs; unfold spec_l3Text.f) ?_
          simp only [Bool.false_eq_true, if_false]
          refine Ev.bind hcut ?_
          simp only [if_neg hx0]
          refine Ev.bind hp ?_
          refine Ev.bind e1 ?_
          refine Ev.bind e2 ?_
          simp only
          rw [if_pos hk2.1, if_pos hk2.2.1, if_pos hk2.2.2, hlet, if_pos (by show 1 + s1.size ≤ _; omega), if_pos (by rw [ByteArray.size_append]; show 1 + s1.size + s2.size ≤ _; omega)]
          cases o1 with
          | none => exact Ev.const _
          | some a =>
            cases o2 with
            | none => exact Ev.const _
            | some b => exact Ev.const _
        · rw [ByteArray.size_append, ByteArray.size_append, Nat.pow_succ]
          show 1 + s1.size + s2.size + 1 ≤ _
          omega
        · intro y hy
          cases o1 with
          | none => cases hy
          | some a =>
            cases o2 with
            | none => cases hy
            | some b =>
              obtain rfl := Option.some.inj hy
              rw [y1 a rfl, y2 b rfl]
              apply ByteArray.ext
              simp [ByteArray.data_append]
end Go.Proofs.Ytiehiockjlhbcaa
