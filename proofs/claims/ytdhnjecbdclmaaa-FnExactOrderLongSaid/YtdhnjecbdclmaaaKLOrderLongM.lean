/- Texts of this claim's, joined by a program: LOrderLong, LSpecLong. -/
import Derived.Test.YtdhnjecbdclmaaaKLKindQM
import Derived.Deep.RegionHeld3
section
namespace Go.Proofs.Ytdhnjecbdclmaaa
open Go.RowKit Go.Shelf Go.Proofs.YtdhnjecbdclmaaaW.PrintWords Go.Proofs.YtdhnjecbdclmaaaW.PrintMore
set_option linter.unusedVariables false
set_option linter.unusedSimpArgs false
def onesF : Nat → Int := fun _ => 1
def longP (p : List ByteArray) : Int × Int × Bool := if plainP p = true then (sumP p false onesF, sumP p true onesF, true) else (0, 0, false)
set_option maxRecDepth 100000 in
set_option maxHeartbeats 16000000 in
theorem orderLong_any (A : Option Addr) (cap : Nat) (p : List ByteArray) (hp : SmallP p) (w : World) (hr0 : Kd.C Kd.string w A p.length p) (hc0 : p.length ≤ cap) :
    Calls Try.prog 61 #[.slice A p.length cap] w fun e w' => e = .returned (.tuple #[.int .i64 (longP p).1, .int .i64 (longP p).2.1, .bool (longP p).2.2]) ∧ Below w.heap.size w w' := by
  have HOO := Aside0.mk (ordersOf_any A cap p hp w hr0 hc0)
  clear hr0 hp
  go_enter Try.func61, Try.ntmps61
  go_wp2_with fail
  refine HOO.out.mono ?_
  rintro e w1 ⟨hb1, ⟨hpl, g1, g2, rfl, r1, r2⟩ | ⟨hpl, rfl⟩⟩
  · have hpg : planG p = true := by unfold plainP at hpl; exact (Bool.and_eq_true_iff.1 hpl).1
    have HV : Aside0 (longP p = (sumP p false onesF, sumP p true onesF, true)) := ⟨by unfold longP; rw [if_pos hpl]⟩
    have HB1 := Aside0.mk hb1
    have R1 : Aside0 (RelW w1 g1 (boxesP p).length (kR p false) ∧ RelW w1 g2 (boxesP p).length (kR p true)) := ⟨r1, r2⟩
    have HX : Aside0 (1 ≤ (boxesP p).length ∧ (boxesP p).length ≤ 9) := ⟨boxes_pos hpg, (planFlat hpg).few⟩
    have hv1 : ∀ x, x < (boxesP p).length → 1 ≤ onesF x ∧ onesF x ≤ 9 := fun x _ => ⟨Int.le_refl _, by show (1 : Int) ≤ 9; omega⟩
    have HHV := Aside0.mk (fun kind g W (hW : RelW W g (boxesP p).length (kR p kind)) gw (hw : ∀ W', Below W.heap.size W W' → NumsW W' gw (boxesP p).length onesF) => heaviest_p p hpg kind onesF hv1 g W hW (some ⟨gw, 0, none⟩) (boxesP p).length (Nat.le_refl _) (fun W' hW' x hx => ⟨⟨gw, 0, none⟩, rfl, by
      have q := ((hw W' hW').at hx).1
      unfold Addr.add
      by_cases e : x = 0
      · subst e; rw [if_pos rfl]; exact q
      · rw [if_neg e]
        show W'.cell? ⟨gw, 0 + x, none⟩ = _
        rw [Nat.zero_add]; exact q⟩))
    have HMX := Aside0.mk (fun kind W g_ c h => heavyMax p hpg kind onesF hv1 W g_ c h)
    have HRP := Aside0.mk (fun lb c W hlb h1 => repeat_any lb c (boxesP p).length HX.out W hlb h1)
    obtain ⟨n, hn⟩ : ∃ n, (boxesP p).length = n := ⟨_, rfl⟩
    rw [hn] at HX R1 HHV HMX HRP ⊢
    clear hb1 hpl hpg r1 r2 hv1 hn
    obtain ⟨W2, hW2⟩ : ∃ W2 : World, W2 = w1.alloc (.cells #[.slice (some ⟨g1, 0, none⟩) n n, .slice (some ⟨g2, 0, none⟩) n n] 101) := ⟨_, rfl⟩
    have hblk2 : W2.heap[w1.heap.size]? = some (.cells #[.slice (some ⟨g1, 0, none⟩) n n, .slice (some ⟨g2, 0, none⟩) n n] 101 (0, 0)) := by rw [hW2]; exact heap_alloc_new _ _
    obtain ⟨W3, hW3⟩ : ∃ W3 : World, W3 = W2.alloc (.cells #[.int .i64 1] 3) := ⟨_, rfl⟩
    have h23 : Below W2.heap.size W2 W3 := by rw [hW3]; exact (Below.refl _ _).alloc (Nat.le_refl _) _
    have hs2 : W2.heap.size = w1.heap.size + 1 := by rw [hW2]; simp
    have hblk3 := below_heap_some h23 hblk2
    have hone : W3.cell? ⟨W2.heap.size, 0, none⟩ = some (.int .i64 1) := by rw [hW3, Lib.cell_of_heap (heap_alloc_new _ _)]; rfl
    have HR3 := Aside0.mk (HRP.out W2.heap.size 1 W3 (by rw [hW3]; simp) hone)
    have H3 : Aside0 (RelW W3 g1 n (kR p false) ∧ RelW W3 g2 n (kR p true) ∧ Below w.heap.size w W3 ∧ W3.heap[w1.heap.size]? = some (.cells #[.slice (some ⟨g1, 0, none⟩) n n, .slice (some ⟨g2, 0, none⟩) n n] 101 (0, 0))) := ⟨by
      have h12 : Below w1.heap.size w1 W2 := by rw [hW2]; exact (Below.refl _ _).alloc (Nat.le_refl _) _
      exact ⟨(R1.out.1.later h12).later h23, (R1.out.2.later h12).later h23, HB1.out.trans ((h12.trans (h23.mono (by omega))).mono HB1.out.size), hblk3⟩⟩
    have HSZ := Aside0.mk hs2
    rw [hs2] at HR3
    have c0 := (pair_zero hblk2).1
    have d0 := (pair_zero hblk3).1
    rw [hW3, hW2] at HR3 H3 d0
    rw [hW2] at c0
    clear hblk2 hblk3 hone h23 hs2 hW2 hW3
    go_wp2_with fail
    refine HR3.out.mono ?_
    rintro e w3 ⟨⟨gw, rfl, hnum⟩, hb3⟩
    have hblk := below_heap_some hb3 H3.out.2.2.2
    have HB3 : Aside0 (Below w.heap.size w w3) := ⟨H3.out.2.2.1.trans (hb3.mono H3.out.2.2.1.size)⟩
    have HH1 : Aside0 (∀ V, Below w3.heap.size w3 V → _) := ⟨fun V hV => HHV.out false g1 V ((H3.out.1.later hb3).later hV) gw (fun W' hW' => below_heap_some hW' (below_heap_some hV hnum))⟩
    have HH2 : Aside0 (∀ V, Below w3.heap.size w3 V → _) := ⟨fun V hV => HHV.out true g2 V ((H3.out.2.1.later hb3).later hV) gw (fun W' hW' => below_heap_some hW' (below_heap_some hV hnum))⟩
    have HPC : Aside0 (∀ V, Below w3.heap.size w3 V → V.cell? ⟨w1.heap.size, 0, none⟩ = some (.slice (some ⟨g1, 0, none⟩) n n) ∧ V.cell? ⟨w1.heap.size, 1, none⟩ = some (.slice (some ⟨g2, 0, none⟩) n n)) := ⟨fun V hV => by
      have q := pair_zero (below_heap_some hV hblk)
      exact ⟨q.1, q.2.1⟩⟩
    have sp := HPC.out w3 (Below.refl _ _)
    clear hnum hblk hb3 c0 d0
    have HC1 := Aside0.mk (HH1.out w3.drew (below_drew (Below.refl _ _)))
    have hsd : w3.drew.heap.size = w3.heap.size := rfl
    have HSD := Aside0.mk hsd
    have hbd : Below w3.heap.size w3 w3.drew := below_drew (Below.refl _ _)
    have HBD := Aside0.mk hbd
    clear hsd hbd HH1
    go_wp2_with fail
    go_region_held3 (fun w' => w'.cell? ⟨w1.heap.size, 0, none⟩ = some (.slice (some ⟨g1, 0, none⟩) n n) ∧ w'.cell? ⟨w1.heap.size, 1, none⟩ = some (.slice (some ⟨g2, 0, none⟩) n n)) (first
      | exact sp
      | exact spB
      | exact spA) (first
      | (go_at_call 132; (with_reducible refine Calls.mono HC1.out ?_); rintro e wA ⟨⟨goA, rfl, hnA⟩, hbA0⟩; have HA := Aside0.mk (And.intro hnA (HBD.out.trans (hbA0.mono (Nat.le_of_eq HSD.out.symm)))); have spA := HPC.out wA HA.out.2; clear hbA0 hnA)
      | (go_at_call 131; (with_reducible refine Calls.mono (HMX.out false _ goA n HA.out.1) ?_); rintro e wM ⟨rfl, rfl⟩)
      | (go_at_call 132; (with_reducible refine Calls.mono (HH2.out _ HA.out.2) ?_); rintro e wB ⟨⟨goB, rfl, hnB⟩, hbB0⟩; have HBB := Aside0.mk (And.intro hnB (HA.out.2.trans (hbB0.mono HA.out.2.size))); have spB := HPC.out wB HBB.out.2; clear hbB0 hnB)
      | (go_at_call 131; (with_reducible refine Calls.mono (HMX.out true _ goB n HBB.out.1) ?_); rintro e wM ⟨rfl, rfl⟩))
    go_wp2_with fail
    go_ret3
    rw [HV.out]
    exact ⟨rfl, HB3.out.trans (HBB.out.2.mono HB3.out.size)⟩
  · have HV : Aside0 (longP p = (0, 0, false)) := ⟨by unfold longP; rw [hpl]; rfl⟩
    have HB1 := Aside0.mk hb1
    clear hb1 hpl
    go_wp2_with fail
    go_ret3
    rw [HV.out]
    exact ⟨rfl, HB1.out.alloc HB1.out.size _⟩
end Go.Proofs.Ytdhnjecbdclmaaa
end
section
namespace Go.Proofs.Ytdhnjecbdclmaaa
open Go.RowKit Go.Shelf Go.Proofs.YtdhnjecbdclmaaaW.PrintWords Go.Proofs.YtdhnjecbdclmaaaW.PrintMore
set_option linter.unusedVariables false
set_option linter.unusedSimpArgs false
theorem inL_zero (R : Nat → Nat → Bool) (best : Nat → Int) (a : Nat) : inL R best a 0 = setN best a (max (best a) 1) := rfl
theorem inL_yes {R : Nat → Nat → Bool} {best : Nat → Int} {a k : Nat} (h : R a k = true) : inL R best a (k + 1) = setN (inL R best a k) a (max (inL R best a k a) (1 + inL R best a k k)) := by
  funext x
  show (if x = a ∧ R a k = true then _ else _) = setN _ a _ x
  unfold setN
  by_cases e : x = a
  · rw [if_pos ⟨e, h⟩, if_pos e]
  · rw [if_neg (fun q => e q.1), if_neg e]
theorem inL_no {R : Nat → Nat → Bool} {best : Nat → Int} {a k : Nat} (h : R a k = false) : inL R best a (k + 1) = inL R best a k := by
  funext x
  show (if x = a ∧ R a k = true then _ else _) = _
  rw [if_neg (by rw [h]; simp)]
theorem rnL_le {n : Nat} {R : Nat → Nat → Bool} {F : Nat → Int} (h1 : ∀ x, x < n → 1 ≤ F x) (hF : ∀ a b, a < n → b < n → R a b = true → F b + 1 ≤ F a) {best : Nat → Int} (most : Int) (h : LeP n F best) : ∀ m, m ≤ n → LeP n F (rnL n R best most m).1 := by
  intro m
  induction m with
  | zero => intro _; exact h
  | succ m ih => intro hm; exact inL_le h1 hF (ih (by omega)) (by omega) n (Nat.le_refl _)
section
variable {n : Nat} (hn : n ≤ 9) {R : Nat → Nat → Bool} {F : Nat → Int} (h1 : ∀ x, x < n → 1 ≤ F x) (hF : ∀ a b, a < n → b < n → R a b = true → F b + 1 ≤ F a) (hb : ∀ x, x < n → F x ≤ 100)
include hn h1 hF hb
theorem long_l2 (best : Nat → Int) (hO : LeP n F best) {t a : Nat} (ha : a < n) (ht : t ≤ n) (most : Int) {V : Int} (hV : Ev (fun k => L10.spec_l5Longest.l1 k (setsL R n) (numsL (inL R best a n) n) (max most (inL R best a n a)) (t : Int) ((a + 1 : Nat) : Int)) V) :
    ∀ d b, b + d = n → Ev (fun k => L10.spec_l5Longest.l2 k (setsL R n) (numsL (inL R best a b) n) most (t : Int) (a : Int) (b : Int)) V := by
  intro d
  induction d with
  | zero =>
    intro b hb'
    obtain rfl : b = n := by omega
    refine hV.step fun k => ?_
    show L10.spec_l5Longest.l2 (k + 1) _ _ _ _ _ _ = _
    conv => lhs; unfold L10.spec_l5Longest.l2
    rw [if_neg (by rw [setsL_len]; omega), if_pos (by omega), if_pos (by rw [numsL_len]; omega), rd_nums ha, wnxt a (by omega), mx_max]
  | succ d ih =>
    intro b hb'
    have hbn : b < n := by omega
    have hE := ih (b + 1) (by omega)
    have hL := inL_le h1 hF hO ha b (by omega)
    have l2 := hL b hbn
    have p2 := hb b hbn
    refine hE.step fun k => ?_
    show L10.spec_l5Longest.l2 (k + 1) _ _ _ _ _ _ = _
    conv => lhs; unfold L10.spec_l5Longest.l2
    rw [if_pos (by rw [setsL_len]; omega), if_pos (by omega), if_pos (by rw [setsL_len]; omega), if_pos (by omega), rd_sets ha, and_shr hn _ hbn, rd_nums ha, rd_nums hbn, Int.toNat_natCast, wnxt b (by omega), mx_max]
    cases hR : R a b with
    | true =>
      rw [if_pos (by simp), if_pos (by rw [numsL_len]; omega), if_pos (by rw [numsL_len]; omega), nums_set ha, inL_yes hR, show wrap64 (1 + inL R best a b b) = 1 + inL R best a b b by rw [wrap64]; omega]
    | false =>
      rw [if_neg (by simp), inL_no hR]
theorem long_l1 (best : Nat → Int) (hO : LeP n F best) {t : Nat} (ht : t < n) (most : Int) {V : Int} (hV : Ev (fun k => L10.spec_l5Longest.l0 k (setsL R n) (numsL (rnL n R best most n).1 n) (rnL n R best most n).2 ((t + 1 : Nat) : Int)) V) :
    ∀ d a, a + d = n → Ev (fun k => L10.spec_l5Longest.l1 k (setsL R n) (numsL (rnL n R best most a).1 n) (rnL n R best most a).2 (t : Int) (a : Int)) V := by
  intro d
  induction d with
  | zero =>
    intro a ha
    obtain rfl : a = n := by omega
    refine hV.step fun k => ?_
    show L10.spec_l5Longest.l1 (k + 1) _ _ _ _ _ = _
    conv => lhs; unfold L10.spec_l5Longest.l1
    rw [if_neg (by rw [setsL_len]; omega), wnxt t (by omega)]
  | succ d ih =>
    intro a ha
    have han : a < n := by omega
    have hE := long_l2 hn h1 hF hb (rnL n R best most a).1 (rnL_le h1 hF most hO a (by omega)) (t := t) han (by omega) (rnL n R best most a).2 (ih (a + 1) (by omega)) n 0 (by omega)
    refine hE.step fun k => ?_
    show L10.spec_l5Longest.l1 (k + 1) _ _ _ _ _ = _
    conv => lhs; unfold L10.spec_l5Longest.l1
    rw [if_pos (by rw [setsL_len]; omega), if_pos (by omega), if_pos (by rw [numsL_len]; omega), rd_nums han, Int.toNat_natCast, nums_set han, mx_max, inL_zero]
    rfl
theorem long_l0 : ∀ d t, t + d = n → Ev (fun k => L10.spec_l5Longest.l0 k (setsL R n) (numsL (alL n R t).1 n) (alL n R t).2 (t : Int)) (alL n R n).2 := by
  intro d
  induction d with
  | zero =>
    intro t ht
    obtain rfl : t = n := by omega
    refine Ev.now fun k => ?_
    conv => lhs; unfold L10.spec_l5Longest.l0
    rw [if_neg (by rw [setsL_len]; omega)]
  | succ d ih =>
    intro t ht
    have hE := long_l1 hn h1 hF hb (alL n R t).1 (alL_inv h1 hF (M := 100) (by omega) hb t).1 (t := t) (by omega) (alL n R t).2 (ih (t + 1) (by omega)) n 0 (by omega)
    refine hE.step fun k => ?_
    show L10.spec_l5Longest.l0 (k + 1) _ _ _ _ = _
    conv => lhs; unfold L10.spec_l5Longest.l0
    rw [if_pos (by rw [setsL_len]; omega)]
    rfl
end
theorem rel_back {p : List ByteArray} (hpl : planG p = true) (kind : Bool) : ∃ rk, Grows (boxesP p).length (fun x y => relP p kind y x) rk := by
  unfold relP
  cases kind
  · exact (leftR_grows (planFlat hpl)).2
  · exact (aboveR_grows (planFlat hpl)).2
theorem longest_ev (p : List ByteArray) (hpl : planG p = true) (kind : Bool) : Ev (fun k => L10.spec_l5Longest.f k (setsL (relP p kind) (boxesP p).length)) (sumP p kind onesF) := by
  have hn := (planFlat hpl).few
  obtain ⟨rk, hg⟩ := rel_grows hpl kind
  obtain ⟨rk', hg'⟩ := rel_back hpl kind
  obtain ⟨n, hnn⟩ : ∃ n, (boxesP p).length = n := ⟨_, rfl⟩
  have hs : sumP p kind onesF = topR (heavyN n (relP p kind) (fun _ => 1)) n := by unfold sumP; rw [hnn]; rfl
  rw [hs, hnn]
  rw [hnn] at hn hg hg'
  obtain ⟨R, hR⟩ : ∃ R, relP p kind = R := ⟨_, rfl⟩
  rw [hR] at hg hg' ⊢
  have hF0 : ∀ a, a < n → heavyF n R a = maxR (fun b => R a b) (heavyF n R) n + 1 := fun a ha => heavyN_eq (R := fun x y => R y x) hg' ha
  have h1 : ∀ x, x < n → 1 ≤ heavyF n R x := fun x hx => by
    rw [hF0 x hx]
    have := maxR_nonneg (fun b => R x b) (heavyF n R) n
    omega
  have hF : ∀ a b, a < n → b < n → R a b = true → heavyF n R b + 1 ≤ heavyF n R a := fun a b ha hb hr => by
    rw [hF0 a ha]
    have := maxR_ge (P := fun b => R a b) (g := heavyF n R) n b hb hr
    omega
  have hb : ∀ x, x < n → heavyF n R x ≤ 100 := fun x hx => by
    have := heavy_le (R := fun x y => R y x) (v := fun _ => 1) (c := 1) (by omega) (fun _ _ => Int.le_refl _) n x hx
    unfold heavyF heavyN
    omega
  have hE := long_l0 hn h1 hF hb n 0 (by omega)
  rw [alL_top hg', ← topR_back hg hg'] at hE
  have hz : numsL (alL n R 0).1 n = List.replicate n 0 := by
    unfold numsL
    show (List.range n).map (fun _ => (0 : Int)) = _
    rw [List.map_const', List.length_range]
  rw [hz] at hE
  refine hE.same fun k => ?_
  unfold L10.spec_l5Longest.f
  rw [setsL_len, if_pos (by omega), if_pos (by rw [Int.toNat_natCast]; omega), Int.toNat_natCast]
  rfl
theorem long_ev (p : List ByteArray) (hp : SmallP p) : Ev (fun k => L10.spec_OrderLong.f k p) (longP p) := by
  have h5 : L10.spec_l5Plain.f p = some (plainP p) := by
    unfold L10.spec_l5Plain.f spec_WallPlain.f
    rw [if_pos hp]; rfl
  unfold L10.spec_OrderLong.f longP
  rw [h5]
  cases hpl : plainP p with
  | false => exact Ev.const _
  | true =>
    have hpg : planG p = true := by unfold plainP at hpl; exact (Bool.and_eq_true_iff.1 hpl).1
    refine Ev.bind (F := fun k t146 => ((L10.spec_l5Longest.f k t146).bind fun t149 => ((L10.spec_l5All.f k p 1).bind fun t150 => ((L10.spec_l5Longest.f k t150).bind fun t153 => (some (t149, t153, true)))))) (all_ev p hpg false) ?_
    refine Ev.bind (F := fun k (t149 : Int) => ((L10.spec_l5All.f k p 1).bind fun t150 => ((L10.spec_l5Longest.f k t150).bind fun t153 => (some (t149, t153, true))))) (longest_ev p hpg false) ?_
    refine Ev.bind (F := fun k t150 => ((L10.spec_l5Longest.f k t150).bind fun t153 => (some (sumP p false onesF, t153, true)))) (all_ev p hpg true) ?_
    exact Ev.bind (F := fun k (t153 : Int) => some (sumP p false onesF, t153, true)) (longest_ev p hpg true) (Ev.const _)
def impl_OrderLong.f (l0 : List ByteArray) : Option (Int × Int × Bool) := if SmallP l0 then some (longP l0) else none
theorem impl_OrderLong.calls (A0 : Option Addr) (c0 : Nat) (l0 : List ByteArray) (r1 : Int) (r2 : Int) (r3 : Bool) (w : World) (hr0 : Kd.C Kd.string w A0 l0.length l0) (hc0 : l0.length ≤ c0) (h : impl_OrderLong.f l0 = some (r1, r2, r3)) :
    Calls Try.prog 61 #[.slice A0 l0.length c0] w fun e w' => e = .returned (.tuple #[.int .i64 r1, .int .i64 r2, .bool r3]) ∧ Below w.heap.size w w' := by
  unfold impl_OrderLong.f at h
  split at h
  · rename_i hb
    injection h with h
    have := orderLong_any A0 c0 l0 hb w hr0 hc0
    rw [h] at this
    exact this
  · cases h
def spec_OrderLong.f (l0 : List ByteArray) : Option (Int × Int × Bool) := if SmallP l0 then some (longP l0) else none
theorem spec_OrderLong.calls (A0 : Option Addr) (c0 : Nat) (l0 : List ByteArray) (r1 : Int) (r2 : Int) (r3 : Bool) (w : World) (hr0 : Kd.C Kd.string w A0 l0.length l0) (hc0 : l0.length ≤ c0) (h : spec_OrderLong.f l0 = some (r1, r2, r3)) :
    Calls Try.prog 60 #[.slice A0 l0.length c0] w fun e w' => e = .returned (.tuple #[.int .i64 r1, .int .i64 r2, .bool r3]) ∧ Below w.heap.size w w' := by
  unfold spec_OrderLong.f at h
  split at h
  · rename_i hb
    injection h with h
    obtain ⟨k, hk⟩ := (long_ev l0 hb).ex
    exact L10.spec_OrderLong.calls k A0 c0 l0 r1 r2 r3 w hr0 hc0 (by rw [hk, h])
  · cases h
end Go.Proofs.Ytdhnjecbdclmaaa
end
