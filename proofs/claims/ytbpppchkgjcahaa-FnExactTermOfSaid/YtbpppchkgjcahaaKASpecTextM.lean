/- Texts of this claim's, joined by a program: ASpecText, APlanFlat, ACutText, AExCut, AExSize. -/
import Derived.Test.YtbpppchkgjcahaaKAFlat
section
namespace Go.Proofs.Ytbpppchkgjcahaa
open Go.RowKit Go.Shelf Go.Proofs.YtbpppchkgjcahaaW.PrintWords Go.Proofs.YtbpppchkgjcahaaW.PrintMore L3
set_option linter.unusedVariables false
def rowOf (p : List ByteArray) (i : Nat) : ByteArray := rdOf ByteArray.empty p (i : Int)
def partsT (p : List ByteArray) (h : Nat) (x : Bool × Nat) : List ByteArray × List ByteArray :=
  if x.1 then ((List.range x.2).map (rowOf p), (List.range (h - x.2)).map fun i => rowOf p (x.2 + i))
  else ((List.range h).map fun i => (rowOf p i).extract 0 x.2, (List.range h).map fun i => (rowOf p i).extract x.2 (rowOf p i).size)
theorem parts_up {p : List ByteArray} {h w : Nat} {G : Nat → Nat → Int} (t : TG p h w G) (k : Nat) (hk : k ≤ w) :
    ∀ d i, i + d = h → Ev (fun n => spec_l3Parts.l0 n p 0 (k : Int) ((List.range i).map fun i => (rowOf p i).extract 0 k) ((List.range i).map fun i => (rowOf p i).extract k (rowOf p i).size) (i : Int)) (partsT p h (false, k)) := by
  have hl := t.len
  have hh := t.high
  have hw := t.wide
  intro d
  induction d with
  | zero =>
    intro i hi
    obtain rfl : i = h := by omega
    refine Ev.now fun n => ?_
    unfold spec_l3Parts.l0
    rw [if_neg (by omega)]; rfl
  | succ d ih =>
    intro i hi
    have hs := t.size i (by omega)
    have hE := ih (i + 1) (by omega)
    rw [List.range_succ, List.map_append, List.map_append] at hE
    refine hE.step fun n => ?_
    show spec_l3Parts.l0 (n + 1) p _ _ _ _ _ = _
    conv => lhs; unfold spec_l3Parts.l0
    rw [if_pos (by omega), if_pos rfl, if_pos (by omega), if_pos (by omega), if_pos (by omega), if_pos (by simp; omega), if_pos (by simp; omega), wsucc (by omega), Int.toNat_natCast]
    rfl
theorem parts_lv {p : List ByteArray} {h w : Nat} {G : Nat → Nat → Int} (t : TG p h w G) (k : Nat) (hk : k ≤ h) :
    ∀ d i, i + d = h → Ev (fun n => spec_l3Parts.l0 n p 1 (k : Int) ((List.range (min i k)).map (rowOf p)) ((List.range (i - k)).map fun i => rowOf p (k + i)) (i : Int)) (partsT p h (true, k)) := by
  have hl := t.len
  have hh := t.high
  have hw := t.wide
  intro d
  induction d with
  | zero =>
    intro i hi
    obtain rfl : i = h := by omega
    refine Ev.now fun n => ?_
    unfold spec_l3Parts.l0
    rw [if_neg (by omega), Nat.min_eq_right hk]; rfl
  | succ d ih =>
    intro i hi
    have hE := ih (i + 1) (by omega)
    by_cases hik : i < k
    · rw [Nat.min_eq_left (by omega), show i + 1 - k = i - k by omega, List.range_succ, List.map_append] at hE
      refine hE.step fun n => ?_
      show spec_l3Parts.l0 (n + 1) p _ _ _ _ _ = _
      conv => lhs; unfold spec_l3Parts.l0
      rw [if_pos (by omega), if_neg (by omega), if_pos (by omega), if_pos (by omega), if_pos (by simp; omega), wsucc (by omega), Nat.min_eq_left (by omega)]
      rfl
    · rw [Nat.min_eq_right (by omega), show i + 1 - k = (i - k) + 1 by omega, List.range_succ, List.map_append, List.map_singleton, show k + (i - k) = i by omega] at hE
      refine hE.step fun n => ?_
      show spec_l3Parts.l0 (n + 1) p _ _ _ _ _ = _
      conv => lhs; unfold spec_l3Parts.l0
      rw [if_pos (by omega), if_neg (by omega), if_neg (by omega), if_pos (by omega), if_pos (by simp; omega), wsucc (by omega), Nat.min_eq_right (by omega)]
      rfl
def kindI (b : Bool) : Int := if b then 1 else 0
theorem parts_f {p : List ByteArray} {h w : Nat} {G : Nat → Nat → Int} (t : TG p h w G) (x : Bool × Nat) (hx : x.2 ≤ if x.1 then h else w) : Ev (fun n => spec_l3Parts.f n p (kindI x.1) (x.2 : Int)) (partsT p h x) := by
  obtain ⟨b, k⟩ := x
  cases b with
  | true =>
    have := parts_lv t k hx h 0 (by omega)
    rw [Nat.zero_min, Nat.zero_sub] at this
    exact this
  | false => exact parts_up t k hx h 0 (by omega)
theorem parts_TG {p : List ByteArray} {h w : Nat} {G : Nat → Nat → Int} (t : TG p h w G) (k : Nat) (hk : 1 ≤ k ∧ k < w) : TG (partsT p h (false, k)).1 h k G ∧ TG (partsT p h (false, k)).2 h (w - k) fun i j => G i (k + j) := by
  have hw := t.wide
  have hs : ∀ i, i < h → (rowOf p i).size = w := t.size
  refine ⟨TG.made _ t.high (by omega) (fun i hi => by rw [ex_size (by omega) (by rw [hs i hi]; omega)]; rfl) (fun i j hi hj => ?_) (fun i j hi hj => t.let_ i j hi (by omega)), TG.made _ t.high (by omega) (fun i hi => by rw [ex_size (by rw [hs i hi]; omega) (Nat.le_refl _), hs i hi]) (fun i j hi hj => ?_) (fun i j hi hj => t.let_ i _ hi (by omega))⟩
  · rw [ex_bt (by rw [hs i hi]; omega) (by omega), Nat.zero_add]; exact t.cell i j hi (by omega)
  · rw [ex_bt (Nat.le_refl _) (by rw [hs i hi]; omega)]; exact t.cell i (k + j) hi (by omega)
theorem parts_TG2 {p : List ByteArray} {h w : Nat} {G : Nat → Nat → Int} (t : TG p h w G) (k : Nat) (hk : 1 ≤ k ∧ k < h) : TG (partsT p h (true, k)).1 k w G ∧ TG (partsT p h (true, k)).2 (h - k) w fun i j => G (k + i) j := by
  have hw := t.wide
  have hh := t.high
  refine ⟨TG.made _ (by omega) hw (fun i hi => t.size i (by omega)) (fun i j hi hj => t.cell i j (by omega) hj) (fun i j hi hj => t.let_ i j (by omega) hj), TG.made _ (by omega) hw (fun i hi => t.size (k + i) (by omega)) (fun i j hi hj => t.cell (k + i) j (by omega) hj) (fun i j hi hj => t.let_ _ j (by omega) hj)⟩
theorem cutsG_in {G : Nat → Nat → Int} {h w : Nat} {x : Bool × Nat} (hx : x ∈ cutsG G h w) : 1 ≤ x.2 ∧ x.2 < if x.1 then h else w := by
  unfold cutsG at hx
  rcases List.mem_append.1 hx with hx | hx
  · obtain ⟨k, hk, rfl⟩ := List.mem_map.1 hx
    have := List.mem_range'_1.1 (List.mem_filter.1 hk).1
    simp only [Bool.false_eq_true, if_false]; omega
  · obtain ⟨k, hk, rfl⟩ := List.mem_map.1 hx
    have := List.mem_range'_1.1 (List.mem_filter.1 hk).1
    simp only [if_true]; omega
def moveX (r c : Nat) (x : Bool × Nat) : Bool × Nat := (x.1, (if x.1 then r else c) + x.2)
theorem parts_grid {p : List ByteArray} {cl : Nat → Nat → Int} {r c ph pw : Nat} (t : TG p ph pw (gridOf cl r c)) {x : Bool × Nat} (hx : x ∈ cutsG (gridOf cl r c) ph pw) :
    TG (partsT p ph x).1 (oneR r c ph pw (moveX r c x)).2.2.1 (oneR r c ph pw (moveX r c x)).2.2.2 (gridOf cl (oneR r c ph pw (moveX r c x)).1 (oneR r c ph pw (moveX r c x)).2.1) ∧
    TG (partsT p ph x).2 (twoR r c ph pw (moveX r c x)).2.2.1 (twoR r c ph pw (moveX r c x)).2.2.2 (gridOf cl (twoR r c ph pw (moveX r c x)).1 (twoR r c ph pw (moveX r c x)).2.1) := by
  have hin := cutsG_in hx
  obtain ⟨b, k⟩ := x
  cases b with
  | true =>
    simp only [if_true] at hin
    obtain ⟨t1, t2⟩ := parts_TG2 t k hin
    simp only [oneR, twoR, moveX, if_true, show r + k - r = k by omega]
    refine ⟨t1, ?_⟩
    have e : gridOf cl (r + k) c = fun i j => gridOf cl r c (k + i) j := by
      funext i j
      unfold gridOf
      rw [Nat.add_assoc]
    rw [e]; exact t2
  | false =>
    simp only [Bool.false_eq_true, if_false] at hin
    obtain ⟨t1, t2⟩ := parts_TG t k hin
    simp only [oneR, twoR, moveX, Bool.false_eq_true, if_false, show c + k - c = k by omega]
    refine ⟨t1, ?_⟩
    have e : gridOf cl r (c + k) = fun i j => gridOf cl r c i (k + j) := by
      funext i j
      unfold gridOf
      rw [Nat.add_assoc]
    rw [e]; exact t2
theorem cap_letter (k : Nat) (hk : k ≤ 20) : strOfNums [((((97 + (k : Int)) - 97) % 256) + 65) % 256] = ⟨#[capL [(k : Int)]]⟩ := by
  unfold strOfNums capL
  rw [show ((((97 + (k : Int)) - 97) % 256) + 65) % 256 = 65 + (k : Int) by omega]
  rfl
theorem kind_cut (b : Bool) : 0 ≤ kindI b ∧ kindI b ≤ wrap64 (kindI b + 1) ∧ wrap64 (kindI b + 1) ≤ 2 := by
  unfold kindI wrap64
  cases b <;> simp
theorem let_cut (b : Bool) : (⟨#[118, 104]⟩ : ByteArray).extract (kindI b).toNat (wrap64 (kindI b + 1)).toNat = ⟨#[if b then 104 else 118]⟩ := by
  cases b with
  | true =>
    rw [show wrap64 (kindI true + 1) = 2 by unfold kindI wrap64; simp]
    rfl
  | false =>
    rw [show wrap64 (kindI false + 1) = 1 by unfold kindI wrap64; simp]
    rfl
theorem specText {cl : Nat → Nat → Int} {boxes : List Box} {h wd : Nat} (f : Flat cl boxes h wd) : ∀ (n : Nat), n ≤ 13 → ∀ (r c ph pw : Nat) (p : List ByteArray), ph + pw < n → Whole cl h wd r c ph pw → TG p ph pw (gridOf cl r c) →
    ∃ s : ByteArray, Ev (fun k => spec_l3Text.f k p) (s, (textL cl boxes n (r, c, ph, pw)).isSome) ∧ s.size + 1 ≤ 2 ^ n ∧ ∀ x, textL cl boxes n (r, c, ph, pw) = some x → s = ⟨x.toArray⟩ := by
  intro n
  induction n with
  | zero => intro _ r c ph pw p h0; omega
  | succ n ih =>
    intro hn r c ph pw p hlt hw t
    have hs := hw.some
    have hl := t.len
    have hs0 := t.size 0 (by omega)
    rw [show ((0 : Nat) : Int) = 0 from rfl] at hs0
    have hpow : 1 ≤ 2 ^ n := Nat.one_le_two_pow
    have hpw13 : 2 ^ n ≤ 2 ^ 12 := Nat.pow_le_pow_right (by omega) (by omega)
    have hone := one_f t
    rw [grid_one f hw] at hone
    by_cases h1 : (listL boxes (natB r c ph pw) boxes.length).length = 1
    · rw [textL_one h1, list_head f hw h1]
      rw [decide_eq_true h1] at hone
      obtain ⟨q, hq, hcq⟩ := f.num r c (by have := hw.row; omega) (by have := hw.col; omega)
      have hfew := f.few
      have hc0 := t.cell 0 0 (by omega) (by omega)
      rw [show ((0 : Nat) : Int) = 0 from rfl] at hc0
      unfold gridOf at hc0
      rw [Nat.add_zero, Nat.add_zero, hcq] at hc0
      refine ⟨⟨#[capL [(q : Int)]]⟩, ?_, ?_, ?_⟩
      · refine Ev.stepBind hone (fun k => by conv => lhs; unfold spec_l3Text.f) ?_
        simp only [if_true]
        rw [if_pos (by omega), if_pos (by omega), hc0, cap_letter q (by omega)]
        exact Ev.const _
      · rw [Nat.pow_succ]; show 1 + 1 ≤ _; omega
      · intro x hx
        obtain rfl := Option.some.inj hx
        rw [hcq]
    · rw [decide_eq_false h1] at hone
      have hcut := cut_f t
      have hcg := cuts_grid cl r c ph pw
      cases hx : (cutsG (gridOf cl r c) ph pw).head? with
      | none =>
        have hx2 : (cutsL cl r c ph pw).head? = none := by rw [hcg, List.head?_map, hx]; rfl
        rw [hx] at hcut
        rw [textL_none h1 hx2]
        refine ⟨⟨#[]⟩, ?_, ?_, fun x hx => by cases hx⟩
        · refine Ev.stepBind hone (fun k => by conv => lhs; unfold spec_l3Text.f) ?_
          simp only [Bool.false_eq_true, if_false]
          refine Ev.bind hcut ?_
          simp only [firstG, if_true]
          exact Ev.const _
        · rw [Nat.pow_succ]; show 0 + 1 ≤ _; omega
      | some x =>
        have hx2 : (cutsL cl r c ph pw).head? = some (moveX r c x) := by rw [hcg, List.head?_map, hx]; rfl
        rw [hx] at hcut
        have hxm := head_in hx2
        have hxg : x ∈ cutsG (gridOf cl r c) ph pw := List.mem_of_mem_head? (by rw [hx]; rfl)
        have hin := cutsG_in hxg
        obtain ⟨w1, w2⟩ := whole_parts f hw hxm
        obtain ⟨t1, t2⟩ := parts_grid t hxg
        have i1 := one_in hxm
        have i2 := two_in hxm
        obtain ⟨s1, e1, z1, y1⟩ := ih (by omega) _ _ _ _ _ (by have := i1.less; omega) w1 t1
        obtain ⟨s2, e2, z2, y2⟩ := ih (by omega) _ _ _ _ _ (by have := i2.less; omega) w2 t2
        have hkind : firstG (some x) = (kindI x.1, (x.2 : Int)) := rfl
        rw [hkind] at hcut
        have hp := parts_f t x (by cases hb : x.1 <;> rw [hb] at hin <;> simp at hin ⊢ <;> omega)
        rw [textL_some h1 hx2]
        obtain ⟨o1, ho1⟩ : ∃ o, textL cl boxes n (oneR r c ph pw (moveX r c x)) = o := ⟨_, rfl⟩
        obtain ⟨o2, ho2⟩ : ∃ o, textL cl boxes n (twoR r c ph pw (moveX r c x)) = o := ⟨_, rfl⟩
        rw [show textL cl boxes n ((oneR r c ph pw (moveX r c x)).1, (oneR r c ph pw (moveX r c x)).2.1, (oneR r c ph pw (moveX r c x)).2.2.1, (oneR r c ph pw (moveX r c x)).2.2.2) = o1 from ho1] at e1 y1
        rw [show textL cl boxes n ((twoR r c ph pw (moveX r c x)).1, (twoR r c ph pw (moveX r c x)).2.1, (twoR r c ph pw (moveX r c x)).2.2.1, (twoR r c ph pw (moveX r c x)).2.2.2) = o2 from ho2] at e2 y2
        rw [ho1, ho2]
        have hlet : (⟨#[118, 104]⟩ : ByteArray).extract (kindI x.1).toNat (wrap64 (kindI x.1 + 1)).toNat = ⟨#[letterL (moveX r c x)]⟩ := by
          exact let_cut x.1
        have hk2 : 0 ≤ kindI x.1 ∧ kindI x.1 ≤ wrap64 (kindI x.1 + 1) ∧ wrap64 (kindI x.1 + 1) ≤ 2 := by
          exact kind_cut x.1
        have hx0 : ¬ ((x.2 : Nat) : Int) = 0 := by omega
        refine ⟨(⟨#[letterL (moveX r c x)]⟩ ++ s1) ++ s2, ?_, ?_, ?_⟩
        · refine Ev.stepBind hone (fun k => by conv => lhs; unfold spec_l3Text.f) ?_
          simp only [Bool.false_eq_true, if_false]
          refine Ev.bind hcut ?_
          simp only [if_neg hx0]
          refine Ev.bind hp ?_
          refine Ev.bind e1 ?_
          refine Ev.bind e2 ?_
          simp only
          rw [if_pos hk2.1, if_pos hk2.2.1, if_pos hk2.2.2, hlet, if_pos (by show 1 + s1.size ≤ _; omega), if_pos (by rw [ByteArray.size_append]; show 1 + s1.size + s2.size ≤ _; omega)]
          cases o1 with
          | none => exact Ev.const _
          | some a =>
            cases o2 with
            | none => exact Ev.const _
            | some b => exact Ev.const _
        · rw [ByteArray.size_append, ByteArray.size_append, Nat.pow_succ]
          show 1 + s1.size + s2.size + 1 ≤ _
          omega
        · intro y hy
          cases o1 with
          | none => cases hy
          | some a =>
            cases o2 with
            | none => cases hy
            | some b =>
              obtain rfl := Option.some.inj hy
              rw [y1 a rfl, y2 b rfl]
              apply ByteArray.ext
              simp [ByteArray.data_append]
end Go.Proofs.Ytbpppchkgjcahaa
end
section
namespace Go.Proofs.Ytbpppchkgjcahaa
open Go.RowKit Go.Shelf Go.Proofs.YtbpppchkgjcahaaW.PrintWords Go.Proofs.YtbpppchkgjcahaaW.PrintMore
set_option linter.unusedVariables false
def wdP (p : List ByteArray) : Nat := ((rowsOf p).getD 0 []).length
def fP (p : List ByteArray) : Nat → Int := cellOf (rowsOf p) (wdP p)
def clP (p : List ByteArray) (i j : Nat) : Int := ((numAt (wdP p) (fP p) (i * wdP p + j) : Nat) : Int)
def boxesP (p : List ByteArray) : List Box := (scanOf (rowsOf p)).2
theorem boxesP_scan (p : List ByteArray) : boxesP p = (scan (wdP p) (fP p) (p.length * wdP p)).2 := by
  unfold boxesP scanOf wdP fP
  have hlen : (rowsOf p).length = p.length := by unfold rowsOf; rw [List.length_map]
  rw [hlen]; rfl
theorem cnt_put (f : Nat → Int) (x : Int) (m : Nat) (hm : f m ≠ x) : ∀ n, cntX (fun i => if i = m then x else f i) x n = cntX f x n + if m < n then 1 else 0 := by
  intro n
  induction n with
  | zero => simp [cntX, sumTo]
  | succ n ih =>
    unfold cntX at ih ⊢
    unfold sumTo
    rw [ih]
    by_cases e : n = m
    · subst e
      simp only [if_true, if_neg hm, if_neg (Nat.lt_irrefl n), if_pos (Nat.lt_succ_self n)]
    · simp only [if_neg e]
      have e1 : (if m < n + 1 then 1 else 0) = (if m < n then 1 else (0 : Nat)) := by
        by_cases h2 : m < n
        · rw [if_pos h2, if_pos (by omega)]
        · rw [if_neg h2, if_neg (by omega)]
      rw [e1]; omega
theorem box_full {w h : Nat} {f : Nat → Int} {x : Int} {b : Box} (hb : IsBox w f (h * w) x b) (ha : (cntX f x (h * w) : Int) = areaB b) {i j : Nat} (hi : i < h) (hj : j < w) (h1 : b.1 ≤ (i : Int)) (h2 : (i : Int) < b.1 + b.2.2.1) (h3 : b.2.1 ≤ (j : Int)) (h4 : (j : Int) < b.2.1 + b.2.2.2) : f (i * w + j) = x := by
  apply Classical.byContradiction
  intro hne
  have hlt : i * w + j < h * w := by
    have : (i + 1) * w ≤ h * w := Nat.mul_le_mul_right _ hi
    rw [Nat.succ_mul] at this; omega
  have hw : ∀ m, f m = x → (fun q => if q = i * w + j then x else f q) m = x := fun m hm => by
    show (if m = i * w + j then x else f m) = x
    split
    · rfl
    · exact hm
  have hb2 : IsBox w (fun q => if q = i * w + j then x else f q) (h * w) x b := by
    refine ⟨fun m hm he => ?_, ?_, ?_, ?_, ?_⟩
    · by_cases e : m = i * w + j
      · subst e
        rw [(div_row hj).1, (div_row hj).2]
        exact ⟨h1, h2, h3, h4⟩
      · have he' : (if m = i * w + j then x else f m) = x := he
        rw [if_neg e] at he'
        exact hb.all m hm he'
    · obtain ⟨m, a, b', c⟩ := hb.top; exact ⟨m, a, hw m b', c⟩
    · obtain ⟨m, a, b', c⟩ := hb.low; exact ⟨m, a, hw m b', c⟩
    · obtain ⟨m, a, b', c⟩ := hb.left; exact ⟨m, a, hw m b', c⟩
    · obtain ⟨m, a, b', c⟩ := hb.right; exact ⟨m, a, hw m b', c⟩
  have hle := cnt_le_area hb2
  rw [cnt_put f x _ hne, if_pos hlt] at hle
  omega
structure PlanFacts (p : List ByteArray) : Prop where
  let_ : lettersB p = true
  shape : shapeB (rowsOf p) = true
  few : (boxesP p).length ≤ 9
  full : fullB (rowsOf p) = true
  named : (numsOf (rowsOf p)).map rowText = p
theorem planFacts {p : List ByteArray} (h : planG p = true) : PlanFacts p := by
  unfold planG at h
  simp only [Bool.and_eq_true, decide_eq_true_eq] at h
  exact ⟨h.1, h.2.1.1, h.2.1.2, h.2.2.1, h.2.2.2⟩
theorem planFlat {p : List ByteArray} (h : planG p = true) : Flat (clP p) (boxesP p) p.length (wdP p) := by
  have F := planFacts h
  obtain ⟨hT, h1, h3⟩ := textGrid_of F.let_ F.shape
  have hN := named_of F.let_ F.shape F.named
  have hlen : (rowsOf p).length = p.length := by unfold rowsOf; rw [List.length_map]
  have hh := hT.high
  have hw := hT.wide
  change wdP p ≤ 6 at hw
  change 1 ≤ wdP p at h3
  change Named (wdP p) (fP p) (p.length * wdP p) at hN
  have hsl := scan_len (w := wdP p) (f := fP p) (p.length * wdP p)
  have hbl : (boxesP p).length = (scan (wdP p) (fP p) (p.length * wdP p)).1.length := by rw [boxesP_scan, hsl]
  have hat : ∀ i j, i < p.length → j < wdP p → i * wdP p + j < p.length * wdP p := fun i j hi hj => by
    have : (i + 1) * wdP p ≤ p.length * wdP p := Nat.mul_le_mul_right _ hi
    rw [Nat.succ_mul] at this; omega
  refine ⟨⟨h1, hh⟩, ⟨h3, hw⟩, F.few, fun i j hi hj => ⟨_, ?_, rfl⟩, fun k hk => ?_⟩
  · rw [hbl]; exact num_lt (hat i j hi hj)
  · have hk1 : k < (scan (wdP p) (fP p) (p.length * wdP p)).1.length := by rw [← hbl]; exact hk
    have hk2 : k < (scan (wdP p) (fP p) (p.length * wdP p)).2.length := by rw [← hsl]; exact hk1
    have hbox := scan_box (w := wdP p) (f := fP p) (p.length * wdP p) k hk1 hk2
    rw [named_ord hN k hk1] at hbox
    have hfu := F.full
    unfold fullB scanOf at hfu
    rw [hlen, decide_eq_true_eq] at hfu
    have har := (area_all (wdP p) p.length (fP p)).1 (by push_cast; exact hfu) k hk1 hk2
    rw [named_ord hN k hk1] at har
    have he : (boxesP p)[k] = (scan (wdP p) (fP p) (p.length * wdP p)).2[k] := by simp only [boxesP_scan]
    rw [he]
    obtain ⟨⟨b1, b2, b3, b4⟩, hb⟩ : ∃ b, (scan (wdP p) (fP p) (p.length * wdP p)).2[k] = b := ⟨_, rfl⟩
    rw [hb] at hbox har ⊢
    obtain ⟨n1, n2, n3, n4⟩ := box_nonneg hbox
    have hlow := hbox.low
    have hright := hbox.right
    have hall := hbox.all
    simp only at n1 n2 n3 n4 hlow hright hall
    obtain ⟨m1, m1a, m1b, m1c⟩ := hlow
    obtain ⟨m2, m2a, m2b, m2c⟩ := hright
    have d1 : m1 / wdP p < p.length := Nat.div_lt_of_lt_mul (by rw [Nat.mul_comm]; exact m1a)
    have d2 : m2 % wdP p < wdP p := Nat.mod_lt _ (by omega)
    refine ⟨b1.toNat, b2.toNat, b3.toNat, b4.toNat, ?_, by omega, by omega, by omega, by omega, fun i j hi hj => ?_⟩
    · unfold natB
      rw [Int.toNat_of_nonneg n1, Int.toNat_of_nonneg n2, Int.toNat_of_nonneg (by omega), Int.toNat_of_nonneg (by omega)]
    · have hnm := hN _ (hat i j hi hj)
      unfold clP
      constructor
      · intro hc
        rw [hc] at hnm
        have := hall _ (hat i j hi hj) hnm
        rw [(div_row hj).1, (div_row hj).2] at this
        omega
      · rintro ⟨⟨e1, e2⟩, e3, e4⟩
        have := box_full hbox har hi hj (by simp only; omega) (by simp only; omega) (by simp only; omega) (by simp only; omega)
        omega
theorem planTG {p : List ByteArray} (h : planG p = true) : TG p p.length (wdP p) (gridOf (clP p) 0 0) := by
  have F := planFacts h
  obtain ⟨hT, h1, h3⟩ := textGrid_of F.let_ F.shape
  have hN := named_of F.let_ F.shape F.named
  have hat : ∀ i j, i < p.length → j < wdP p → i * wdP p + j < p.length * wdP p := fun i j hi hj => by
    have : (i + 1) * wdP p ≤ p.length * wdP p := Nat.mul_le_mul_right _ hi
    rw [Nat.succ_mul] at this; omega
  have hg : ∀ i j, i < p.length → j < wdP p → fP p (i * wdP p + j) = gridOf (clP p) 0 0 i j := fun i j hi hj => by
    unfold gridOf clP
    rw [Nat.zero_add, Nat.zero_add]
    exact hN _ (hat i j hi hj)
  refine ⟨rfl, fun i hi => ?_, fun i j hi hj => ?_, fun i j hi hj => ?_, ⟨h1, hT.high⟩, ⟨h3, hT.wide⟩⟩
  · rw [rdOf_at hi]; exact hT.size i hi
  · rw [rdOf_at hi, ← hg i j hi hj]; exact hT.cell i j hi hj
  · rw [← hg i j hi hj]; exact hT.let_ _ (hat i j hi hj)
theorem FloorAt.reads {W : World} {base fb : Nat} {p : List ByteArray} (hf : FloorAt W base fb (numsOf (rowsOf p)) (scanOf (rowsOf p)).2) : FloorR W fb p.length (wdP p) (clP p) (boxesP p) := by
  obtain ⟨g, h, rv, rows, h1, h2, h3, h4, h5, h6⟩ := hf
  have hlen : (rowsOf p).length = p.length := by unfold rowsOf; rw [List.length_map]
  have hh : h = p.length := by
    rw [← h4]
    have := congrArg List.length h3
    rw [List.length_map] at this
    rw [this]
    unfold numsOf
    rw [List.length_map, List.length_range, hlen]
  subst hh
  have hfb := (Array.getElem?_eq_some_iff.1 h1).1
  have hg := (Array.getElem?_eq_some_iff.1 h2.1).1
  have hrow : ∀ r (hr : r < p.length), (rows[r]'(by omega)).2 = (List.range (wdP p)).map fun c => ((numAt (wdP p) (fP p) (r * wdP p + c) : Nat) : Int) := fun r hr => by
    have := congrArg (fun l => l[r]?) h3
    unfold numsOf at this
    rw [List.getElem?_map, List.getElem?_map, List.getElem?_range (by omega), List.getElem?_eq_getElem (by omega)] at this
    exact Option.some.inj this
  have hrooms : ∃ (RA : Option Addr) (rc : Nat), rv = .slice RA (boxesP p).length rc ∧ (boxesP p ≠ [] → ∃ rg, RA = some ⟨rg, 0, none⟩ ∧ rg < W.heap.size ∧ ∀ k (hk : k < (boxesP p).length), W.cell? ⟨rg, k * 4, none⟩ = some (.int .i64 (boxesP p)[k].1) ∧ W.cell? ⟨rg, k * 4 + 1, none⟩ = some (.int .i64 (boxesP p)[k].2.1) ∧ W.cell? ⟨rg, k * 4 + 2, none⟩ = some (.int .i64 (boxesP p)[k].2.2.1) ∧ W.cell? ⟨rg, k * 4 + 3, none⟩ = some (.int .i64 (boxesP p)[k].2.2.2)) := by
    change Rooms W base rv (boxesP p) at h5
    by_cases he : boxesP p = []
    · obtain ⟨A, c, e⟩ := own_slice h5
      exact ⟨A, c, e, fun hne => absurd he hne⟩
    · obtain ⟨rg, c, e, _, _, hlt, _, hc⟩ := Rooms.form h5 (List.length_pos_iff.2 he)
      exact ⟨_, c, e, fun _ => ⟨rg, rfl, hlt, hc⟩⟩
  obtain ⟨RA, rc, hrv, hro⟩ := hrooms
  refine ⟨g, fun r => (rows.getD r (0, [])).1, RA, rc, hfb, hg, ?_, ?_, fun r hr => ?_, hro⟩
  · rw [Lib.cell_of_heap h1]; rfl
  · rw [Lib.cell_of_heap h1, hrv]; rfl
  · have hrl : r < rows.length := by omega
    have hD : rows.getD r (0, []) = rows[r] := by rw [List.getD_eq_getElem?_getD, List.getElem?_eq_getElem hrl]; rfl
    have hI := h2.2 _ (List.getElem_mem hrl)
    have hlenr : (rows[r]).2.length = wdP p := by rw [hrow r hr, List.length_map, List.length_range]
    simp only [hD]
    refine ⟨(Array.getElem?_eq_some_iff.1 hI).1, ?_, fun c hc => ?_⟩
    · have := h2.cell r (rowV rows[r]) (by rw [List.getElem?_append_left (by rw [List.length_map]; exact hrl), List.getElem?_map, List.getElem?_eq_getElem hrl]; rfl)
      rw [this]; unfold rowV; rw [hlenr]
    · rw [hI.cell c (by omega)]
      unfold clP
      congr 2
      simp only [hrow r hr, List.getElem_map, List.getElem_range]
end Go.Proofs.Ytbpppchkgjcahaa
end
section
namespace Go.Proofs.Ytbpppchkgjcahaa
open Go.RowKit Go.Shelf Go.Proofs.YtbpppchkgjcahaaW.PrintWords Go.Proofs.YtbpppchkgjcahaaW.PrintMore
set_option linter.unusedVariables false
theorem Flat.boxIn {cl : Nat → Nat → Int} {boxes : List Box} {h wd : Nat} (f : Flat cl boxes h wd) : ∀ x ∈ boxes, BoxIn x := by
  intro x hx
  obtain ⟨k, hk, rfl⟩ := List.getElem_of_mem hx
  obtain ⟨a, b, c, d, e, h1, h2, h3, h4, _⟩ := f.box k hk
  have hh := f.high
  have hw := f.wide
  rw [e]
  exact boxIn_nat (by omega) (by omega) (by omega) (by omega)
def cutTextO (p : List ByteArray) : Option (List UInt8) := textL (clP p) (boxesP p) 13 (0, 0, p.length, wdP p)
def cutTextP (p : List ByteArray) : ByteArray × Bool := if planG p then (⟨((cutTextO p).getD []).toArray⟩, (cutTextO p).isSome) else (⟨#[]⟩, false)
def cutIsP (p : List ByteArray) : Bool := (cutTextP p).2
theorem spec_text (p : List ByteArray) (h : planG p = true) : ∃ s : ByteArray, Ev (fun k => L3.spec_l3Text.f k p) (s, (cutTextO p).isSome) ∧ ∀ x, cutTextO p = some x → s = ⟨x.toArray⟩ := by
  have f := planFlat h
  obtain ⟨s, e, _, y⟩ := specText f 13 (by omega) 0 0 p.length (wdP p) p (by have := f.high; have := f.wide; omega) f.whole (planTG h)
  exact ⟨s, e, y⟩
theorem spec_CutIs_f (p : List ByteArray) (hp : SmallP p) : ∃ k, L3.spec_CutIs.f k p = some (cutTextP p).2 := by
  refine Ev.ex (g := fun k => L3.spec_CutIs.f k p) ?_
  have hpi : ∀ k : Nat, spec_PlanIn.f p = some (planG p) := fun k => by unfold spec_PlanIn.f; rw [if_pos hp]
  have hPI : Ev (fun _ : Nat => spec_PlanIn.f p) (planG p) := ⟨0, fun k _ => hpi k⟩
  unfold cutTextP
  cases h : planG p with
  | false =>
    rw [h] at hPI
    refine hPI.bind (F := fun k t193 => _) ?_
    simp only [Bool.false_eq_true, if_false]
    exact Ev.const _
  | true =>
    obtain ⟨s, e, y⟩ := spec_text p h
    rw [h] at hPI
    refine hPI.bind (F := fun k t193 => _) ?_
    simp only [if_true]
    exact e.bind (Ev.const _)
def spec_CutIs.f (l0 : List ByteArray) : Option Bool := if SmallP l0 then some (cutIsP l0) else none
theorem spec_CutIs.calls (A0 : Option Addr) (c0 : Nat) (l0 : List ByteArray) (r : Bool) (w : World) (hr0 : Kd.C Kd.string w A0 l0.length l0) (hc0 : l0.length ≤ c0) (h : spec_CutIs.f l0 = some r) :
    Calls Try.prog 64 #[.slice A0 l0.length c0] w fun e w' => e = .returned (.bool r) ∧ Below w.heap.size w w' := by
  unfold spec_CutIs.f at h
  split at h
  · rename_i hb
    injection h with h
    obtain ⟨k, hk⟩ := spec_CutIs_f l0 hb
    rw [show (cutTextP l0).2 = r from h] at hk
    exact L3.spec_CutIs.calls k A0 c0 l0 r w hr0 hc0 hk
  · cases h
end Go.Proofs.Ytbpppchkgjcahaa
end
section
namespace Go.Proofs.Ytbpppchkgjcahaa
open Go.RowKit Go.Shelf Go.Proofs.YtbpppchkgjcahaaW.PrintWords Go.Proofs.YtbpppchkgjcahaaW.PrintMore
set_option linter.unusedVariables false
open Classical in
noncomputable def tot {α : Type} (g : Nat → Option α) : Option α := if h : ∃ r, Ev g r then some h.choose else none
theorem Ev.uniq {α : Type} {g : Nat → Option α} {r s : α} (h : Ev g r) (k : Ev g s) : r = s := by
  obtain ⟨a, h⟩ := h
  obtain ⟨b, k⟩ := k
  exact Option.some.inj ((h (a + b) (by omega)).symm.trans (k (a + b) (by omega)))
theorem tot_ev {α : Type} {g : Nat → Option α} {r : α} (h : Ev g r) : tot g = some r := by
  unfold tot
  rw [dif_pos ⟨r, h⟩]
  exact congrArg some (Ev.uniq (Exists.choose_spec (⟨r, h⟩ : ∃ r, Ev g r)) h)
theorem tot_ex {α : Type} {g : Nat → Option α} {r : α} (h : tot g = some r) : ∃ k, g k = some r := by
  unfold tot at h
  split at h
  · rename_i hx
    have := hx.choose_spec
    rw [Option.some.inj h] at this
    exact this.ex
  · cases h
noncomputable def spec_l3One.f (l0 : List ByteArray) : Option (Bool) := tot fun k => L3.spec_l3One.f k l0
theorem spec_l3One.calls (A0 : Option Addr) (c0 : Nat) (l0 : List ByteArray) (r : Bool) (w : World) (hr0 : Kd.C Kd.string w A0 l0.length l0) (hc0 : l0.length ≤ c0) (h : spec_l3One.f l0 = some r) :
    Calls Try.prog 119 #[.slice A0 l0.length c0] w fun e w' => e = .returned (.bool r) ∧ Below w.heap.size w w' := by
  obtain ⟨k, hk⟩ := tot_ex h
  exact (L3.spec_l3One.calls k A0 c0 l0 r w hr0 hc0 hk).mono fun e w' ⟨he, n, hw⟩ => ⟨he, by rw [hw]; exact pw_below_drewN (Below.refl _ _) _⟩
noncomputable def spec_l3Cut.f (l0 : List ByteArray) : Option (Int × Int) := tot fun k => L3.spec_l3Cut.f k l0
theorem spec_l3Cut.calls (A0 : Option Addr) (c0 : Nat) (l0 : List ByteArray) (r1 : Int) (r2 : Int) (w : World) (hr0 : Kd.C Kd.string w A0 l0.length l0) (hc0 : l0.length ≤ c0) (h : spec_l3Cut.f l0 = some (r1, r2)) :
    Calls Try.prog 120 #[.slice A0 l0.length c0] w fun e w' => e = .returned (.tuple #[.int .i64 r1, .int .i64 r2]) ∧ Below w.heap.size w w' := by
  obtain ⟨k, hk⟩ := tot_ex h
  exact L3.spec_l3Cut.calls k A0 c0 l0 r1 r2 w hr0 hc0 hk
noncomputable def spec_l3Text.f (l0 : List ByteArray) : Option (ByteArray × Bool) := tot fun k => L3.spec_l3Text.f k l0
theorem spec_l3Text.calls (A0 : Option Addr) (c0 : Nat) (l0 : List ByteArray) (r1 : ByteArray) (r2 : Bool) (w : World) (hr0 : Kd.C Kd.string w A0 l0.length l0) (hc0 : l0.length ≤ c0) (h : spec_l3Text.f l0 = some (r1, r2)) :
    Calls Try.prog 118 #[.slice A0 l0.length c0] w fun e w' => e = .returned (.tuple #[.string r1, .bool r2]) ∧ Below w.heap.size w w' := by
  obtain ⟨k, hk⟩ := tot_ex h
  exact L3.spec_l3Text.calls k A0 c0 l0 r1 r2 w hr0 hc0 hk
noncomputable def spec_l1Rooms.f (l0 : List ByteArray) : Option (Int) := tot fun k => L2.spec_l1Rooms.f k l0
theorem spec_l1Rooms.calls (A0 : Option Addr) (c0 : Nat) (l0 : List ByteArray) (r : Int) (w : World) (hr0 : Kd.C Kd.string w A0 l0.length l0) (hc0 : l0.length ≤ c0) (h : spec_l1Rooms.f l0 = some r) :
    Calls Try.prog 65 #[.slice A0 l0.length c0] w fun e w' => e = .returned (.int .i64 r) ∧ Below w.heap.size w w' := by
  obtain ⟨k, hk⟩ := tot_ex h
  exact L2.spec_l1Rooms.calls k A0 c0 l0 r w hr0 hc0 hk
noncomputable def spec_l1Cells.f (l0 : List ByteArray) (a1 : Int) : Option (Int) := tot fun k => L2.spec_l1Cells.f k l0 a1
theorem spec_l1Cells.calls (A0 : Option Addr) (c0 : Nat) (l0 : List ByteArray) (a1 : Int) (r : Int) (w : World) (hr0 : Kd.C Kd.string w A0 l0.length l0) (hc0 : l0.length ≤ c0) (h : spec_l1Cells.f l0 a1 = some r) :
    Calls Try.prog 141 #[.slice A0 l0.length c0, .int .i64 a1] w fun e w' => e = .returned (.int .i64 r) ∧ Below w.heap.size w w' := by
  obtain ⟨k, hk⟩ := tot_ex h
  exact (L2.spec_l1Cells.calls k A0 c0 l0 a1 r w hr0 hc0 hk).mono fun e w' ⟨he, n, hw⟩ => ⟨he, by rw [hw]; exact pw_below_drewN (Below.refl _ _) _⟩
noncomputable def spec_l1Room.f (l0 : List ByteArray) (a1 : Int) : Option (Int × Int × Int × Int) := tot fun k => L2.spec_l1Room.f k l0 a1
theorem spec_l1Room.calls (A0 : Option Addr) (c0 : Nat) (l0 : List ByteArray) (a1 : Int) (r1 : Int) (r2 : Int) (r3 : Int) (r4 : Int) (w : World) (hr0 : Kd.C Kd.string w A0 l0.length l0) (hc0 : l0.length ≤ c0) (h : spec_l1Room.f l0 a1 = some (r1, r2, r3, r4)) :
    Calls Try.prog 140 #[.slice A0 l0.length c0, .int .i64 a1] w fun e w' => e = .returned (.tuple #[.int .i64 r1, .int .i64 r2, .int .i64 r3, .int .i64 r4]) ∧ Below w.heap.size w w' := by
  obtain ⟨k, hk⟩ := tot_ex h
  exact L2.spec_l1Room.calls k A0 c0 l0 a1 r1 r2 r3 r4 w hr0 hc0 hk
end Go.Proofs.Ytbpppchkgjcahaa
end
section
namespace Go.Proofs.Ytbpppchkgjcahaa
open Go.RowKit Go.Shelf Go.Proofs.YtbpppchkgjcahaaW.PrintWords Go.Proofs.YtbpppchkgjcahaaW.PrintMore
set_option linter.unusedVariables false
noncomputable def spec_l3Parts.f (l0 : List ByteArray) (a1 : Int) (a2 : Int) : Option (List ByteArray × List ByteArray) := tot fun k => L3.spec_l3Parts.f k l0 a1 a2
theorem spec_l3Parts.calls (A0 : Option Addr) (c0 : Nat) (l0 : List ByteArray) (a1 : Int) (a2 : Int) (r1 : List ByteArray) (r2 : List ByteArray) (w : World) (hr0 : Kd.C Kd.string w A0 l0.length l0) (hc0 : l0.length ≤ c0) (h : spec_l3Parts.f l0 a1 a2 = some (r1, r2)) :
    Calls Try.prog 121 #[.slice A0 l0.length c0, .int .i64 a1, .int .i64 a2] w fun e w' => ∃ v0_ v1_ : Value, e = .returned (.tuple #[v0_, v1_]) ∧ Kd.R Kd.string 9 w' w.heap.size (fun k_ => some k_ ≠ (v1_ : Value).ownBlock) v0_ r1 ∧ Kd.R Kd.string 9 w' w.heap.size (fun k_ => some k_ ≠ (v0_ : Value).ownBlock) v1_ r2 ∧ Below w.heap.size w w' := by
  obtain ⟨k, hk⟩ := tot_ex h
  exact L3.spec_l3Parts.calls k A0 c0 l0 a1 a2 r1 r2 w hr0 hc0 hk
end Go.Proofs.Ytbpppchkgjcahaa
end
