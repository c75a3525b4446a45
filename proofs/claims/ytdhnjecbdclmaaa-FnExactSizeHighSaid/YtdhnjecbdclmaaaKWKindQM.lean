/- Texts of this claim's, joined by a program: WKindQ, WKindR, WAsked, WSpecAll, WHeavy, WHeaviest, WFoldI, WSizeCut, WSizeWH, WSpecPlaces, WPlanRoom. -/
import Derived.Test.YtdhnjecbdclmaaaKWJustP
import Derived.Test.YtdhnjecbdclmaaaKWFourDM
import Derived.Test.YtdhnjecbdclmaaaKWBitPM
import Derived.Test.YtdhnjecbdclmaaaKWOrders
import Derived.Laws.ResultCell
import Derived.Laws.Rows
import Derived.Test.YtdhnjecbdclmaaaKWL10x
import Derived.Test.YtdhnjecbdclmaaaKWSpecTextM
import Derived.Laws.EntriesVeiled
import Derived.Test.YtdhnjecbdclmaaaKWPartM
section
namespace Go.Proofs.Ytdhnjecbdclmaaa
open Go.RowKit Go.Shelf Go.Proofs.YtdhnjecbdclmaaaW.PrintWords Go.Proofs.YtdhnjecbdclmaaaW.PrintMore
set_option linter.unusedVariables false
set_option linter.unusedSimpArgs false
set_option linter.unusedSectionVars false
end Go.Proofs.Ytdhnjecbdclmaaa
end
section
namespace Go.Proofs.Ytdhnjecbdclmaaa
open Go.RowKit Go.Shelf Go.Proofs.YtdhnjecbdclmaaaW.PrintWords Go.Proofs.YtdhnjecbdclmaaaW.PrintMore
set_option linter.unusedVariables false
set_option linter.unusedSimpArgs false
end Go.Proofs.Ytdhnjecbdclmaaa
end
section
namespace Go.Proofs.Ytdhnjecbdclmaaa
open Go.RowKit Go.Shelf Go.Proofs.YtdhnjecbdclmaaaW.PrintWords Go.Proofs.YtdhnjecbdclmaaaW.PrintMore
set_option linter.unusedVariables false
set_option linter.unusedSimpArgs false
def relP (p : List ByteArray) (level : Bool) : Nat → Nat → Bool := if level then aboveR (clP p) p.length (wdP p) (boxesP p).length else leftR (clP p) p.length (wdP p) (boxesP p).length
theorem rel_false (p : List ByteArray) {x y : Nat} (hx : x < (boxesP p).length) (hy : y < (boxesP p).length) : kRound (boxesP p).length (justB (clP p) false (wallsL (clP p) p.length (wdP p))) (boxesP p).length x y = relP p false x y := kRound_close _ _ x y hx hy
theorem rel_true (p : List ByteArray) {x y : Nat} (hx : x < (boxesP p).length) (hy : y < (boxesP p).length) : kRound (boxesP p).length (justB (clP p) true (wallsL (clP p) p.length (wdP p))) (boxesP p).length x y = relP p true x y := kRound_close _ _ x y hx hy
end Go.Proofs.Ytdhnjecbdclmaaa
end
section
namespace Go.Proofs.Ytdhnjecbdclmaaa
open Go.RowKit Go.Shelf Go.Proofs.YtdhnjecbdclmaaaW.PrintWords Go.Proofs.YtdhnjecbdclmaaaW.PrintMore
set_option linter.unusedVariables false
set_option linter.unusedSimpArgs false
theorem bits_wrap {n : Nat} (hn : n ≤ 9) (R : Nat → Bool) : IntKind.i64.wrap ((bitsN R n : Nat) : Int) = ((bitsN R n : Nat) : Int) := by
  have := bitsN_small R hn
  rw [IntKind.wrap_i64]; omega
theorem or_sets {n : Nat} (hn : n ≤ 9) (R S : Nat → Bool) : Go.bits .or .i64 ((bitsN R n : Nat) : Int) ((bitsN S n : Nat) : Int) = ((bitsN (fun j => R j || S j) n : Nat) : Int) := by
  unfold Go.bits
  show IntKind.i64.wrap (((BitVec.ofInt 64 ((bitsN R n : Nat) : Int) ||| BitVec.ofInt 64 ((bitsN S n : Nat) : Int)).toNat : Nat) : Int) = _
  rw [or_int (bitsN_small R hn) (bitsN_small S hn), bits_or, bits_wrap hn]
theorem and_shr {n : Nat} (hn : n ≤ 9) (R : Nat → Bool) {c : Nat} (hc : c < n) : Go.bits .and .i64 (shr .i64 ((bitsN R n : Nat) : Int) (c : Int)) 1 = if R c = true then 1 else 0 := by
  have hm := bits_mem R n c
  have hs := bitsN_small R hn
  have e : shr .i64 ((bitsN R n : Nat) : Int) (c : Int) = ((bitsN R n / 2 ^ c : Nat) : Int) := by
    unfold shr
    rw [Int.toNat_natCast, show min c IntKind.i64.bits = c from Nat.min_eq_left (by show c ≤ 64; omega)]
    push_cast
    rfl
  rw [e]
  obtain ⟨q, hq⟩ : ∃ q, bitsN R n / 2 ^ c = q := ⟨_, rfl⟩
  have hq9 : q < 512 := by rw [← hq]; exact Nat.lt_of_le_of_lt (Nat.div_le_self _ _) hs
  rw [hq] at hm ⊢
  unfold Go.bits
  show IntKind.i64.wrap (((BitVec.ofInt 64 (q : Int) &&& BitVec.ofInt 64 1).toNat : Nat) : Int) = _
  rw [and_int hq9, hm]
  by_cases h : R c = true
  · rw [if_pos ⟨hc, h⟩, if_pos h]; decide
  · rw [if_neg (fun x => h x.2), if_neg h]; decide
theorem rd_sets {R : Nat → Nat → Bool} {n a : Nat} (ha : a < n) : rd (setsL R n) (a : Int) = ((bitsN (R a) n : Nat) : Int) := by
  unfold rd setsL
  rw [Int.toNat_natCast, List.getD_eq_getElem?_getD, List.getElem?_map, List.getElem?_range ha]
  rfl
theorem setsL_row {R : Nat → Nat → Bool} {n a c : Nat} (ha : a < n) (h : R a c = true) : (setsL R n).set a ((bitsN (fun j => R a j || R c j) n : Nat) : Int) = setsL (closeRow R c a) n := by
  apply List.ext_getElem?
  intro i
  rw [List.getElem?_set]
  unfold setsL
  simp only [List.getElem?_map, List.length_map, List.length_range]
  by_cases e : a = i
  · subst e
    rw [if_pos rfl, if_pos ha, List.getElem?_range ha]
    show some _ = some _
    congr 1
    show ((_ : Nat) : Int) = ((_ : Nat) : Int)
    congr 1
    apply bitsN_cong
    intro j hj
    unfold closeRow
    rw [if_pos rfl, h, Bool.true_and]
  · rw [if_neg e]
    by_cases hi : i < n
    · rw [List.getElem?_range hi]
      show some _ = some _
      congr 1
      show ((_ : Nat) : Int) = ((_ : Nat) : Int)
      congr 1
      apply bitsN_cong
      intro j hj
      unfold closeRow
      rw [if_neg (fun h => e h.symm)]
    · rw [List.getElem?_eq_none (by simp; omega)]; rfl
theorem closeRow_no {R : Nat → Nat → Bool} {c a : Nat} (h : R a c = false) : closeRow R c a = R := by
  funext x y
  unfold closeRow
  by_cases e : x = a
  · subst e; rw [if_pos rfl, h, Bool.false_and, Bool.or_false]
  · rw [if_neg e]
theorem wnxt (i : Nat) (hi : i ≤ 2000000) : wrap64 ((i : Int) + 1) = ((i + 1 : Nat) : Int) := by rw [wrap64]; omega
theorem all_l1 {n : Nat} (hn : n ≤ 9) (R : Nat → Nat → Bool) {c : Nat} (hc : c < n) {V : List Int} (hV : Ev (fun k => L10.spec_l5All.l0 k (setsL (closeA R c n) n) ((c + 1 : Nat) : Int)) V) : ∀ d a, a + d = n → Ev (fun k => L10.spec_l5All.l1 k (setsL (closeA R c a) n) (c : Int) (a : Int)) V := by
  intro d
  induction d with
  | zero =>
    intro a ha
    obtain rfl : a = n := by omega
    refine hV.step fun k => ?_
    show L10.spec_l5All.l1 (k + 1) _ _ _ = _
    conv => lhs; unfold L10.spec_l5All.l1
    rw [if_neg (by rw [setsL_len]; omega), wnxt c (by omega)]
  | succ d ih =>
    intro a ha
    have hE := ih (a + 1) (by omega)
    have han : a < n := by omega
    refine hE.step fun k => ?_
    show L10.spec_l5All.l1 (k + 1) _ _ _ = _
    conv => lhs; unfold L10.spec_l5All.l1
    rw [if_pos (by rw [setsL_len]; omega), if_pos (by omega), if_pos (by omega), rd_sets han, rd_sets hc, and_shr hn _ hc, or_sets hn, Int.toNat_natCast, wnxt a (by omega)]
    show _ = L10.spec_l5All.l1 k (setsL (closeRow (closeA R c a) c a) n) _ _
    cases hR : closeA R c a a c with
    | true =>
      rw [if_pos (by simp), if_pos (by rw [setsL_len]; omega), setsL_row han hR]
    | false =>
      rw [if_neg (by simp), closeRow_no hR]
theorem all_l0 {n : Nat} (hn : n ≤ 9) (R : Nat → Nat → Bool) : ∀ d c, c + d = n → Ev (fun k => L10.spec_l5All.l0 k (setsL (closeK n R c) n) (c : Int)) (setsL (closeB n R) n) := by
  intro d
  induction d with
  | zero =>
    intro c hc
    obtain rfl : c = n := by omega
    refine Ev.now fun k => ?_
    conv => lhs; unfold L10.spec_l5All.l0
    rw [if_neg (by rw [setsL_len]; omega)]
    rfl
  | succ d ih =>
    intro c hc
    have hE := all_l1 hn (closeK n R c) (c := c) (by omega) (ih (c + 1) (by omega)) n 0 (by omega)
    refine hE.step fun k => ?_
    show L10.spec_l5All.l0 (k + 1) _ _ = _
    conv => lhs; unfold L10.spec_l5All.l0
    rw [if_pos (by rw [setsL_len]; omega)]
    rfl
theorem all_ev (p : List ByteArray) (hpl : planG p = true) (kind : Bool) : Ev (fun k => L10.spec_l5All.f k p (orderI kind)) (setsL (relP p kind) (boxesP p).length) := by
  have hn := (planFlat hpl).few
  have h := all_l0 hn (justB (clP p) kind (wallsL (clP p) p.length (wdP p))) (boxesP p).length 0 (by omega)
  have hj : spec_l5Just.f p (orderI kind) = some (justS p kind) := by
    unfold spec_l5Just.f orderI
    rw [if_pos hpl]
    cases kind <;> rfl
  have hr : closeB (boxesP p).length (justB (clP p) kind (wallsL (clP p) p.length (wdP p))) = relP p kind := by
    unfold relP
    cases kind <;> rfl
  rw [hr] at h
  unfold L10.spec_l5All.f
  rw [hj]
  exact h
end Go.Proofs.Ytdhnjecbdclmaaa
end
section
namespace Go.Proofs.Ytdhnjecbdclmaaa
open Go.RowKit Go.Shelf Go.Proofs.YtdhnjecbdclmaaaW.PrintWords Go.Proofs.YtdhnjecbdclmaaaW.PrintMore
set_option linter.unusedVariables false
set_option linter.unusedSimpArgs false
theorem heavy_le {n : Nat} {R : Nat → Nat → Bool} {v : Nat → Int} {c : Int} (h0 : 0 ≤ c) (hv : ∀ x, x < n → v x ≤ c) : ∀ k b, b < n → heavy n R v k b ≤ c * k := by
  intro k
  induction k with
  | zero => intro b _; show (0 : Int) ≤ c * ((0 : Nat) : Int); simp
  | succ k ih =>
    intro b hb
    show maxR _ _ n + v b ≤ _
    have h1 : maxR (fun a => R a b) (heavy n R v k) n ≤ c * k := maxR_le (Int.mul_nonneg h0 (by omega)) n fun a ha _ => ih a ha
    have h2 := hv b hb
    have h3 : c * ((k + 1 : Nat) : Int) = c * (k : Int) + c := by
      rw [Int.natCast_add, Int.mul_add]; simp
    omega
def NumsW (W : World) (g n : Nat) (o : Nat → Int) : Prop := W.heap[g]? = some (.cells ((List.range n).map fun x => Value.int .i64 (o x)).toArray 3 (0, 0))
def setN (o : Nat → Int) (b : Nat) (v : Int) : Nat → Int := fun x => if x = b then v else o x
theorem NumsW.at {W : World} {g n : Nat} {o : Nat → Int} (h : NumsW W g n o) {b : Nat} (hb : b < n) : W.cell? ⟨g, b, none⟩ = some (.int .i64 (o b)) ∧ W.frozen? ⟨g, b, none⟩ = false := by
  refine ⟨?_, Lib.frozen_of_heap h b⟩
  rw [Lib.cell_of_heap h]
  simp [List.getElem?_range hb]
theorem NumsW.set {W : World} {g n : Nat} {o : Nat → Int} (h : NumsW W g n o) {b : Nat} (hb : b < n) (v : Int) : NumsW (W.setCell ⟨g, b, none⟩ (.int .i64 v)) g n (setN o b v) := by
  have h' : W.heap[g]? = _ := h
  have h1 : (W.setCell ⟨g, b, none⟩ (.int .i64 v)).heap[g]? = some (.cells (((List.range n).map fun x => Value.int .i64 (o x)).toArray.setIfInBounds b (.int .i64 v)) 3 (0, 0)) := by
    simp only [World.setCell, Array.getElem?_modify, if_pos rfl, h']
    rfl
  unfold NumsW
  rw [h1]
  congr 2
  apply Array.ext_getElem?
  intro j
  simp only [Array.getElem?_setIfInBounds, List.getElem?_toArray, List.getElem?_map, List.size_toArray, List.length_map, List.length_range]
  by_cases e : b = j
  · subst e
    rw [if_pos rfl, if_pos hb, List.getElem?_range hb]
    simp [setN]
  · rw [if_neg e]
    by_cases hj : j < n
    · rw [List.getElem?_range hj]
      simp [setN, show ¬ j = b from fun x => e x.symm]
    · rw [List.getElem?_eq_none (by simp; omega)]; rfl
structure HvI (w1 W : World) (s n : Nat) (o : Nat → Int) : Prop where
  below : Below (s + 2) w1 W
  boxO : W.heap[s + 3]? = w1.heap[s + 3]?
  boxF : W.heap[s + 4]? = w1.heap[s + 4]?
  row : NumsW W (s + 2) n o
  big : s + 5 ≤ W.heap.size
theorem HvI.drewN {w1 W : World} {s n : Nat} {o : Nat → Int} (h : HvI w1 W s n o) (q : Nat) : HvI w1 (W.drewN q) s n o := ⟨pw_below_drewN h.below q, h.boxO, h.boxF, h.row, h.big⟩
theorem HvI.set {w1 W : World} {s n : Nat} {o : Nat → Int} (h : HvI w1 W s n o) {b : Nat} (hb : b < n) (v : Int) : HvI w1 (W.setCell ⟨s + 2, b, none⟩ (.int .i64 v)) s n (setN o b v) :=
  ⟨Below.setCell (p := ⟨s + 2, b, none⟩) h.below (Nat.le_refl _) _, (Below.heap_setCell _ _ _ _ (by show s + 3 ≠ s + 2; omega)).trans h.boxO, (Below.heap_setCell _ _ _ _ (by show s + 4 ≠ s + 2; omega)).trans h.boxF, h.row.set hb v, by rw [World.size_setCell]; exact h.big⟩
def GoodN (n : Nat) (H o : Nat → Int) : Prop := ∀ x, x < n → o x = 0 ∨ o x = H x
def MonoN (n : Nat) (H o o' : Nat → Int) : Prop := ∀ x, x < n → o x = H x → o' x = H x
def hvFn (s : Nat) : Value := .func (.func 189) #[] #[.pointer (some ⟨s + 3, 0, none⟩), .pointer (some ⟨s, 0, none⟩), .pointer (some ⟨s + 4, 0, none⟩), .pointer (some ⟨s + 1, 0, none⟩)]
set_option maxRecDepth 100000 in
set_option maxHeartbeats 16000000 in
theorem heavy1_any (w1 : World) (s g n : Nat) (hn : n ≤ 9) (hg : g + n < s) (R : Nat → Nat → Bool) (rk : Nat → Nat) (v : Nat → Int) (hgr : Grows n R rk) (hv : ∀ x, x < n → 1 ≤ v x ∧ v x ≤ 9)
    (hR : RelW w1 g n R) (WA : Option Addr) (wc : Nat) (hWA : ∀ W, Below (s + 2) w1 W → ∀ x, x < n → ∃ ad, WA = some ad ∧ W.cell? (ad.add x) = some (.int .i64 (v x)))
    (c0 : w1.cell? ⟨s, 0, none⟩ = some (.slice (some ⟨g, 0, none⟩) n n)) (c1 : w1.cell? ⟨s + 1, 0, none⟩ = some (.slice WA n wc)) (hwc : n ≤ wc)
    (c3 : w1.cell? ⟨s + 3, 0, none⟩ = some (.slice (some ⟨s + 2, 0, none⟩) n n)) (c4 : w1.cell? ⟨s + 4, 0, none⟩ = some (hvFn s)) :
    ∀ K b, b < n → rk b < K → ∀ W o, HvI w1 W s n o → GoodN n (heavyN n R v) o →
      Calls Try.prog 189 #[.int .i64 b, .pointer (some ⟨s + 3, 0, none⟩), .pointer (some ⟨s, 0, none⟩), .pointer (some ⟨s + 4, 0, none⟩), .pointer (some ⟨s + 1, 0, none⟩)] W fun e W' => e = .returned (.int .i64 (heavyN n R v b)) ∧ ∃ o', HvI w1 W' s n o' ∧ GoodN n (heavyN n R v) o' ∧ MonoN n (heavyN n R v) o o' ∧ o' b = heavyN n R v b := by
  intro K
  induction K with
  | zero => intro b _ h; omega
  | succ K ih =>
    intro b hb hrk W o hI hG
    obtain ⟨H, hH⟩ : ∃ H, heavyN n R v = H := ⟨_, rfl⟩
    have hpos : ∀ x, x < n → 1 ≤ H x ∧ H x ≤ 1000 := fun x hx => by
      rw [← hH]
      constructor
      · rw [heavyN_eq hgr hx]
        have := maxR_nonneg (fun a => R a x) (heavyN n R v) n
        have := (hv x hx).1
        omega
      · have := heavy_le (R := R) (c := 9) (by omega) (fun x hx => (hv x hx).2) n x hx
        unfold heavyN
        omega
    have heq : H b = maxR (fun a => R a b) H n + v b := by rw [← hH]; exact heavyN_eq hgr hb
    have hmx : ∀ k, k ≤ n → 0 ≤ maxR (fun a => R a b) H k ∧ maxR (fun a => R a b) H k ≤ 1000 := fun k hk => ⟨maxR_nonneg _ _ _, maxR_le (by omega) k fun a ha _ => (hpos a (by omega)).2⟩
    rw [hH] at ih hG ⊢
    have HI := Aside0.mk (And.intro hI hG)
    have HIH : Aside0 (∀ a, a < n → R a b = true → ∀ W o, HvI w1 W s n o → GoodN n H o → Calls Try.prog 189 #[.int .i64 a, .pointer (some ⟨s + 3, 0, none⟩), .pointer (some ⟨s, 0, none⟩), .pointer (some ⟨s + 4, 0, none⟩), .pointer (some ⟨s + 1, 0, none⟩)] W fun e W' => e = .returned (.int .i64 (H a)) ∧ ∃ o', HvI w1 W' s n o' ∧ GoodN n H o' ∧ MonoN n H o o' ∧ o' a = H a) := ⟨fun a ha hr W o h1 h2 => ih a ha (by have := hgr.1 a b ha hb hr; omega) W o h1 h2⟩
    have HBX : Aside0 (∀ W o, HvI w1 W s n o → W.cell? ⟨s, 0, none⟩ = some (.slice (some ⟨g, 0, none⟩) n n) ∧ W.cell? ⟨s + 1, 0, none⟩ = some (.slice WA n wc) ∧ W.cell? ⟨s + 3, 0, none⟩ = some (.slice (some ⟨s + 2, 0, none⟩) n n) ∧ W.cell? ⟨s + 4, 0, none⟩ = some (hvFn s)) := ⟨fun W o h => ⟨(h.below.cell (p := ⟨s, 0, none⟩) (by show s < s + 2; omega)).trans c0, (h.below.cell (p := ⟨s + 1, 0, none⟩) (by show s + 1 < s + 2; omega)).trans c1, (World.cell?_of_block (w := w1) (a := ⟨s + 3, 0, none⟩) h.boxO).trans c3, (World.cell?_of_block (w := w1) (a := ⟨s + 4, 0, none⟩) h.boxF).trans c4⟩⟩
    have HRL : Aside0 (∀ W o, HvI w1 W s n o → RelW W g n R) := ⟨fun W o h => hR.keep fun k k1 k2 => h.below.block k (by omega)⟩
    have HWT : Aside0 (∀ W o, HvI w1 W s n o → ∃ ad, WA = some ad ∧ W.cell? (ad.add b) = some (.int .i64 (v b))) := ⟨fun W o h => hWA W h.below b hb⟩
    have HPS := Aside0.mk hpos
    have HEQ := Aside0.mk heq
    have HMX := Aside0.mk hmx
    have hvb := hv b hb
    have b0 : (0 : Int) ≤ (b : Int) := by omega
    have bn : (b : Int) < (n : Int) := by omega
    have HNB : Aside0 (0 < n) := ⟨by omega⟩
    clear ih hG hI hpos heq hmx hgr hv hR hWA c0 c1 c3 c4 hH
    obtain ⟨d0, d1, d3, d4⟩ := HBX.out W o HI.out.1
    obtain ⟨r1, r2⟩ := HI.out.1.row.at hb
    unfold hvFn at d4
    by_cases hob : o b = 0
    · rw [hob] at r1
      go_enter Try.func189, Try.ntmps189
      go_wp2_with fail
      clear d0 d1 d3 d4 r1 r2
      go_loopg [7, 16] n (fun gg s7 s16 wr => ∃ a : Nat, s16 = .int .i64 a ∧ a ≤ n ∧ n - a ≤ gg ∧ s7 = .int .i64 (maxR (fun x => R x b) H a) ∧ Aside0 (∃ o', HvI w1 wr s n o' ∧ GoodN n H o' ∧ MonoN n H o o'))
      case atStart => exact ⟨0, rfl, by omega, by omega, rfl, ⟨o, HI.out.1, HI.out.2, fun x hx h => h⟩⟩
      case round =>
        obtain ⟨a, rfl, ha, hgg, rfl, HD⟩ := hrel
        obtain ⟨o', HD'⟩ : ∃ o', Aside0 (HvI w1 wr s n o' ∧ GoodN n H o' ∧ MonoN n H o o') := by
          obtain ⟨o', h⟩ := HD.out
          exact ⟨o', ⟨h⟩⟩
        obtain ⟨d0, d1, d3, d4⟩ := HBX.out wr o' HD'.out.1
        unfold hvFn at d4
        have hma := HMX.out a ha
        obtain ⟨M, hM⟩ : ∃ M, maxR (fun x => R x b) H a = M := ⟨_, rfl⟩
        have HMM := Aside0.mk hM
        rw [hM] at hma
        rw [hM]
        clear hM
        by_cases hlt : (a : Int) < (n : Int)
        · have han : a < n := by omega
          have a0 : (0 : Int) ≤ (a : Int) := by omega
          have q1 := (HRL.out wr o' HD'.out.1).cell han
          have q2 := ((HRL.out wr o' HD'.out.1).at han hb).1
          have hpa := HPS.out a han
          cases hr : R a b with
          | true =>
            rw [hr] at q2
            have HCA := Aside0.mk (HIH.out a han hr wr o' HD'.out.1 HD'.out.2.1)
            have HRR := Aside0.mk hr
            clear hr
            obtain ⟨ha', hha⟩ : ∃ x, H a = x := ⟨_, rfl⟩
            rw [hha] at hpa HCA
            have HHA := Aside0.mk hha
            clear hha
            go_wp2_with fail
            refine HCA.out.mono ?_
            rintro e w3 ⟨rfl, o3, i1, i2, i3, i4⟩
            have H3 := Aside0.mk (And.intro i1 (And.intro i2 i3))
            clear i1 i2 i3 i4
            go_wp2_with fail
            go_roundg (n - (a + 1))
            case measure => omega
            case rel =>
              refine ⟨a + 1, by go_num, by omega, Nat.le_refl _, ?_, ⟨o3, H3.out.1, H3.out.2.1, fun x hx h => H3.out.2.2 x hx (HD'.out.2.2 x hx h)⟩⟩
              show _ = Value.int .i64 (if R a b = true then max (maxR (fun x => R x b) H a) (H a) else _)
              rw [HRR.out, if_pos rfl, HMM.out, HHA.out]
          | false =>
            rw [hr] at q2
            have HRR := Aside0.mk hr
            clear hr hpa
            go_wp2_with fail
            go_roundg (n - (a + 1))
            case measure => omega
            case rel =>
              refine ⟨a + 1, by go_num, by omega, Nat.le_refl _, ?_, HD⟩
              show _ = Value.int .i64 (if R a b = true then _ else (maxR (fun x => R x b) H a))
              rw [HRR.out, if_neg (by simp), HMM.out]
        · obtain rfl : a = n := by omega
          obtain ⟨aw, rfl, q3⟩ := HWT.out wr o' HD'.out.1
          obtain ⟨q4, q5⟩ := HD'.out.1.row.at hb
          obtain ⟨vb, hvb'⟩ : ∃ x, v b = x := ⟨_, rfl⟩
          rw [hvb'] at hvb q3
          have hval : H b = M + vb := by rw [HEQ.out, HMM.out, hvb']
          have HVL := Aside0.mk hval
          have HST := Aside0.mk ((HD'.out.1.drewN 1).set hb (M + vb))
          have e1 : IntKind.i64.wrap (M + vb) = M + vb := by rw [IntKind.wrap_i64]; omega
          clear hval hvb' hlt
          go_wp2_with fail
          refine wp_still_tail 9 (by kernel_rfl) (by kernel_rfl) ?_
          simp only [List.take_succ_cons, List.take_zero, List.drop_succ_cons, List.drop_zero]
          iterate 9 (refine @wpStill_step _ _ _ _ _ _ _ ?_; intro K hK; go_simp; refine hK _ ?_; clear hK K)
          refine @wpStill_nil _ _ _ _ _ ?_
          go_wp2_with fail
          go_ret
          refine ⟨by rw [HVL.out]; rfl, setN o' b (M + vb), HST.out, fun x hx => ?_, fun x hx hx2 => ?_, ?_⟩
          · unfold setN
            by_cases e : x = b
            · subst e; rw [if_pos rfl]; exact .inr HVL.out.symm
            · rw [if_neg e]; exact HD'.out.2.1 x hx
          · unfold setN
            by_cases e : x = b
            · subst e; rw [if_pos rfl]; exact HVL.out.symm
            · rw [if_neg e]; exact HD'.out.2.2 x hx hx2
          · unfold setN
            rw [if_pos rfl]; exact HVL.out.symm
    · have hoh : o b = H b := (HI.out.2 b hb).resolve_left hob
      have e0 : (H b == 0) = false := by
        have := (HPS.out b hb).1
        rw [beq_eq_false_iff_ne]; omega
      rw [hoh] at r1
      have HOH := Aside0.mk hoh
      clear hob hoh
      go_enter Try.func189, Try.ntmps189
      go_wp2_with fail
      go_ret
      exact ⟨rfl, o, HI.out.1, HI.out.2, fun x hx h => h, HOH.out⟩
end Go.Proofs.Ytdhnjecbdclmaaa
end
section
namespace Go.Proofs.Ytdhnjecbdclmaaa
open Go.RowKit Go.Shelf Go.Proofs.YtdhnjecbdclmaaaW.PrintWords Go.Proofs.YtdhnjecbdclmaaaW.PrintMore
set_option linter.unusedVariables false
set_option linter.unusedSimpArgs false
theorem RelW.lt {W : World} {g n : Nat} {R : Nat → Nat → Bool} (h : RelW W g n R) : g + n < W.heap.size := by
  by_cases e : n = 0
  · subst e; exact (Array.getElem?_eq_some_iff.1 h.top).1
  · have := (Array.getElem?_eq_some_iff.1 (h.row (n - 1) (by omega))).1; omega
set_option maxRecDepth 100000 in
set_option maxHeartbeats 16000000 in
theorem heaviest_any (g n : Nat) (hn : n ≤ 9) (hn0 : 0 < n) (R : Nat → Nat → Bool) (rk : Nat → Nat) (v : Nat → Int) (hgr : Grows n R rk) (hv : ∀ x, x < n → 1 ≤ v x ∧ v x ≤ 9) (w : World) (hR : RelW w g n R) (WA : Option Addr) (wc : Nat) (hwc : n ≤ wc)
    (hWA : ∀ W, Below w.heap.size w W → ∀ x, x < n → ∃ ad, WA = some ad ∧ W.cell? (ad.add x) = some (.int .i64 (v x))) :
    Calls Try.prog 132 #[.slice (some ⟨g, 0, none⟩) n n, .slice WA n wc] w fun e w' => (∃ go_, e = .returned (.slice (some ⟨go_, 0, none⟩) n n) ∧ NumsW w' go_ n (heavyN n R v)) ∧ Below w.heap.size w w' := by
  have mk1 : ∀ W : World, (Instr.makeSlice 37 (.int .i64 (n : Int)) (.int .i64 (n : Int))).run Try.prog W = .ok (.slice (some ⟨W.heap.size, 0, none⟩) n n) (W.alloc (.cells (madeCells #[.int .i64 0] n) 3)) :=
    print_make 37 3 .i64 8 Try.underlying37 (by kernel_rfl) (by omega) n (by omega)
  have hlt := hR.lt
  have H0 := Aside0.mk hR
  have H1 := Aside0.mk hgr
  have H2 := Aside0.mk hv
  have H3 := Aside0.mk hWA
  have n0 : (0 : Int) ≤ (n : Int) := by omega
  clear hR hgr hv hWA
  have hcell : ∀ W0 : World, W0 = (((((w.alloc (.cells #[.slice (some ⟨g, 0, none⟩) n n] 99)).alloc (.cells #[.slice WA n wc] 37)).alloc (.cells (madeCells #[.int .i64 0] n) 3)).alloc (.cells #[.slice (some ⟨w.heap.size + 1 + 1, 0, none⟩) n n] 37)).alloc (.cells #[(.func (.func 189) #[] #[.pointer (some ⟨w.heap.size + 1 + 1 + 1, 0, none⟩), .pointer (some ⟨w.heap.size, 0, none⟩), .pointer (some ⟨w.heap.size + 1 + 1 + 1 + 1, 0, none⟩), .pointer (some ⟨w.heap.size + 1, 0, none⟩)])] 54)) →
      (Below w.heap.size w W0 ∧ W0.heap.size = w.heap.size + 5) ∧ W0.heap[w.heap.size]? = some (.cells #[.slice (some ⟨g, 0, none⟩) n n] 99 (0, 0)) ∧ W0.heap[w.heap.size + 1]? = some (.cells #[.slice WA n wc] 37 (0, 0)) ∧ NumsW W0 (w.heap.size + 2) n (fun _ => 0) ∧ W0.heap[w.heap.size + 3]? = some (.cells #[.slice (some ⟨w.heap.size + 2, 0, none⟩) n n] 37 (0, 0)) ∧ W0.heap[w.heap.size + 4]? = some (.cells #[hvFn w.heap.size] 54 (0, 0)) := by
    intro W0 e
    have s1 : (w.alloc (.cells #[.slice (some ⟨g, 0, none⟩) n n] 99)).heap.size = w.heap.size + 1 := by simp
    obtain ⟨V1, h1⟩ : ∃ V, w.alloc (.cells #[.slice (some ⟨g, 0, none⟩) n n] 99) = V := ⟨_, rfl⟩
    have a1 : V1.heap[w.heap.size]? = some (.cells #[.slice (some ⟨g, 0, none⟩) n n] 99 (0, 0)) := by rw [← h1]; exact heap_alloc_new _ _
    have b1 : Below w.heap.size w V1 := by rw [← h1]; exact (Below.refl _ _).alloc (Nat.le_refl _) _
    rw [h1] at e s1
    obtain ⟨V2, h2⟩ : ∃ V, V1.alloc (.cells #[.slice WA n wc] 37) = V := ⟨_, rfl⟩
    have s2 : V2.heap.size = w.heap.size + 2 := by rw [← h2]; simp [s1]
    have a2 : V2.heap[w.heap.size + 1]? = some (.cells #[.slice WA n wc] 37 (0, 0)) := by rw [← h2, ← s1]; exact heap_alloc_new _ _
    have b2 : Below V1.heap.size V1 V2 := by rw [← h2]; exact (Below.refl _ _).alloc (Nat.le_refl _) _
    rw [h2] at e
    obtain ⟨V3, h3⟩ : ∃ V, V2.alloc (.cells (madeCells #[.int .i64 0] n) 3) = V := ⟨_, rfl⟩
    have s3 : V3.heap.size = w.heap.size + 3 := by rw [← h3]; simp [s2]
    have a3 : NumsW V3 (w.heap.size + 2) n (fun _ => 0) := by
      unfold NumsW
      rw [← h3, ← s2, heap_alloc_new, made_rep, List.map_const', List.length_range]
    have b3 : Below V2.heap.size V2 V3 := by rw [← h3]; exact (Below.refl _ _).alloc (Nat.le_refl _) _
    rw [h3] at e
    obtain ⟨V4, h4⟩ : ∃ V, V3.alloc (.cells #[.slice (some ⟨w.heap.size + 1 + 1, 0, none⟩) n n] 37) = V := ⟨_, rfl⟩
    have s4 : V4.heap.size = w.heap.size + 4 := by rw [← h4]; simp [s3]
    have a4 : V4.heap[w.heap.size + 3]? = some (.cells #[.slice (some ⟨w.heap.size + 2, 0, none⟩) n n] 37 (0, 0)) := by rw [← h4, ← s3]; exact heap_alloc_new _ _
    have b4 : Below V3.heap.size V3 V4 := by rw [← h4]; exact (Below.refl _ _).alloc (Nat.le_refl _) _
    rw [h4] at e
    have s5 : W0.heap.size = w.heap.size + 5 := by rw [e]; simp [s4]
    have a5 : W0.heap[w.heap.size + 4]? = some (.cells #[hvFn w.heap.size] 54 (0, 0)) := by
      have q := heap_alloc_new V4 (.cells #[hvFn w.heap.size] 54)
      rw [s4] at q
      rw [e]
      exact q
    have b5 : Below V4.heap.size V4 W0 := by rw [e]; exact (Below.refl _ _).alloc (Nat.le_refl _) _
    have k4 : ∀ j, j < w.heap.size + 4 → W0.heap[j]? = V4.heap[j]? := fun j hj => b5.block j (by omega)
    have k3 : ∀ j, j < w.heap.size + 3 → W0.heap[j]? = V3.heap[j]? := fun j hj => (k4 j (by omega)).trans (b4.block j (by omega))
    have k2 : ∀ j, j < w.heap.size + 2 → W0.heap[j]? = V2.heap[j]? := fun j hj => (k3 j (by omega)).trans (b3.block j (by omega))
    have k1 : ∀ j, j < w.heap.size + 1 → W0.heap[j]? = V1.heap[j]? := fun j hj => (k2 j (by omega)).trans (b2.block j (by omega))
    refine ⟨⟨b1.trans ((b2.trans ((b3.trans ((b4.trans (b5.mono (by omega))).mono (by omega))).mono (by omega))).mono (by omega)), s5⟩, (k1 _ (by omega)).trans a1, (k2 _ (by omega)).trans a2, (k3 _ (by omega)).trans a3, (k4 _ (by omega)).trans a4, a5⟩
  obtain ⟨W0, hW0⟩ : ∃ W0, W0 = (((((w.alloc (.cells #[.slice (some ⟨g, 0, none⟩) n n] 99)).alloc (.cells #[.slice WA n wc] 37)).alloc (.cells (madeCells #[.int .i64 0] n) 3)).alloc (.cells #[.slice (some ⟨w.heap.size + 1 + 1, 0, none⟩) n n] 37)).alloc (.cells #[(.func (.func 189) #[] #[.pointer (some ⟨w.heap.size + 1 + 1 + 1, 0, none⟩), .pointer (some ⟨w.heap.size, 0, none⟩), .pointer (some ⟨w.heap.size + 1 + 1 + 1 + 1, 0, none⟩), .pointer (some ⟨w.heap.size + 1, 0, none⟩)])] 54)) := ⟨_, rfl⟩
  have HC := Aside0.mk (hcell W0 hW0)
  clear hcell
  have HR0 : Aside0 (∀ b, b < n → ∀ W o, HvI W0 W w.heap.size n o → GoodN n (heavyN n R v) o → Calls Try.prog 189 #[.int .i64 b, .pointer (some ⟨w.heap.size + 3, 0, none⟩), .pointer (some ⟨w.heap.size, 0, none⟩), .pointer (some ⟨w.heap.size + 4, 0, none⟩), .pointer (some ⟨w.heap.size + 1, 0, none⟩)] W fun e W' => e = .returned (.int .i64 (heavyN n R v b)) ∧ ∃ o', HvI W0 W' w.heap.size n o' ∧ GoodN n (heavyN n R v) o' ∧ MonoN n (heavyN n R v) o o' ∧ o' b = heavyN n R v b) := ⟨fun b hb W o h1 h2 =>
    heavy1_any W0 w.heap.size g n hn hlt R rk v H1.out H2.out (H0.out.keep fun k k1 k2 => HC.out.1.1.block k (by omega)) WA wc (fun W hW x hx => H3.out W (HC.out.1.1.trans (hW.mono (by omega))) x hx)
      (by rw [Lib.cell_of_heap HC.out.2.1]; rfl) (by rw [Lib.cell_of_heap HC.out.2.2.1]; rfl) hwc (by rw [Lib.cell_of_heap HC.out.2.2.2.2.1]; rfl) (by rw [Lib.cell_of_heap HC.out.2.2.2.2.2]; rfl) n b hb (H1.out.2 b hb) W o h1 h2⟩
  have HI0 : Aside0 (HvI W0 W0 w.heap.size n (fun _ => 0) ∧ GoodN n (heavyN n R v) (fun _ => 0)) := ⟨⟨Below.refl _ _, rfl, rfl, HC.out.2.2.2.1, by rw [HC.out.1.2]; exact Nat.le_refl _⟩, fun x hx => .inl rfl⟩
  have HBX : Aside0 (∀ W o, HvI W0 W w.heap.size n o → W.cell? ⟨w.heap.size + 1 + 1 + 1, 0, none⟩ = some (.slice (some ⟨w.heap.size + 1 + 1, 0, none⟩) n n) ∧ W.cell? ⟨w.heap.size + 1 + 1 + 1 + 1, 0, none⟩ = some (hvFn w.heap.size) ∧ W.cell? ⟨w.heap.size, 0, none⟩ = some (.slice (some ⟨g, 0, none⟩) n n)) := ⟨fun W o h =>
    ⟨(World.cell?_of_block (w := W0) (a := ⟨w.heap.size + 3, 0, none⟩) h.boxO).trans (by rw [Lib.cell_of_heap HC.out.2.2.2.2.1]; rfl), (World.cell?_of_block (w := W0) (a := ⟨w.heap.size + 4, 0, none⟩) h.boxF).trans (by rw [Lib.cell_of_heap HC.out.2.2.2.2.2]; rfl), (h.below.cell (p := ⟨w.heap.size, 0, none⟩) (by show w.heap.size < w.heap.size + 2; omega)).trans (by rw [Lib.cell_of_heap HC.out.2.1]; rfl)⟩⟩
  go_enter Try.func132, Try.ntmps132
  go_wp2_with fail
  rw [← hW0]
  clear hW0 mk1
  go_loopg [14] n (fun gg s14 wr => ∃ b : Nat, s14 = .int .i64 b ∧ b ≤ n ∧ n - b ≤ gg ∧ Aside0 (∃ o, HvI W0 wr w.heap.size n o ∧ GoodN n (heavyN n R v) o ∧ ∀ x, x < b → o x = heavyN n R v x))
  case atStart => exact ⟨0, rfl, by omega, by omega, ⟨_, HI0.out.1, HI0.out.2, fun x hx => absurd hx (by omega)⟩⟩
  case round =>
    obtain ⟨b, rfl, hb, hgg, HD⟩ := hrel
    obtain ⟨o, HD'⟩ : ∃ o, Aside0 (HvI W0 wr w.heap.size n o ∧ GoodN n (heavyN n R v) o ∧ ∀ x, x < b → o x = heavyN n R v x) := by
      obtain ⟨o', h⟩ := HD.out
      exact ⟨o', ⟨h⟩⟩
    obtain ⟨d3, d4, d0⟩ := HBX.out wr o HD'.out.1
    unfold hvFn at d4
    by_cases hlt2 : (b : Int) < (n : Int)
    · have hbn : b < n := by omega
      have HCB := Aside0.mk (HR0.out b hbn wr o HD'.out.1 HD'.out.2.1)
      go_wp2_with fail
      refine HCB.out.mono ?_
      rintro e w3 ⟨rfl, o3, i1, i2, i3, i4⟩
      have H3' := Aside0.mk (And.intro i1 (And.intro i2 (And.intro i3 i4)))
      clear i1 i2 i3 i4
      go_wp2_with fail
      go_roundg (n - (b + 1))
      case measure => omega
      case rel =>
        refine ⟨b + 1, by go_num, by omega, Nat.le_refl _, ⟨o3, H3'.out.1, H3'.out.2.1, fun x hx => ?_⟩⟩
        by_cases e : x = b
        · subst e; exact H3'.out.2.2.2
        · exact H3'.out.2.2.1 x (by omega) (HD'.out.2.2 x (by omega))
    · obtain rfl : b = n := by omega
      go_wp2_with fail
      go_ret
      refine ⟨⟨w.heap.size + 2, rfl, ?_⟩, HC.out.1.1.trans (HD'.out.1.below.mono (by omega))⟩
      have h := HD'.out.1.row
      unfold NumsW at h ⊢
      rw [h]
      congr 3
      apply List.map_congr_left
      intro x hx
      rw [HD'.out.2.2 x (List.mem_range.1 hx)]
end Go.Proofs.Ytdhnjecbdclmaaa
end
section
namespace Go.Proofs.Ytdhnjecbdclmaaa
open Go.RowKit Go.Shelf Go.Proofs.YtdhnjecbdclmaaaW.PrintWords Go.Proofs.YtdhnjecbdclmaaaW.PrintMore
set_option linter.unusedVariables false
def NeedsAt (W : World) (nb : Nat) (needs : List Int) : Prop := nb < W.heap.size ∧ ∃ A c, W.cell? ⟨nb, 0, none⟩ = some (.slice A needs.length c) ∧ Kd.C (Kd.int .i64) W A needs.length needs
theorem NeedsAt.below {W W' : World} {nb : Nat} {needs : List Int} (h : NeedsAt W nb needs) (hb : Below W.heap.size W W') : NeedsAt W' nb needs := by
  obtain ⟨h1, A, c, h2, h3⟩ := h
  exact ⟨Nat.lt_of_lt_of_le h1 hb.size, A, c, (hb.cell (p := ⟨nb, 0, none⟩) h1).trans h2, Kd.C_below h3 hb⟩
end Go.Proofs.Ytdhnjecbdclmaaa
end
section
namespace Go.Proofs.Ytdhnjecbdclmaaa
open Go.RowKit Go.Shelf Go.Proofs.YtdhnjecbdclmaaaW.PrintWords Go.Proofs.YtdhnjecbdclmaaaW.PrintMore
set_option linter.unusedVariables false
set_option linter.unusedSimpArgs false
theorem needsG_parts {p : List ByteArray} {needs : List Int} (h : needsG p needs = true) : planG p = true ∧ needs.length = (boxesP p).length ∧ ∀ x ∈ needs, (0 : Int) ≤ x ∧ x ≤ 9 := by
  unfold needsG at h
  obtain ⟨h1, h2⟩ := Bool.and_eq_true_iff.1 h
  obtain ⟨h3, h4⟩ := Bool.and_eq_true_iff.1 h2
  unfold plainP at h1
  refine ⟨(Bool.and_eq_true_iff.1 h1).1, of_decide_eq_true h3, fun x hx => ?_⟩
  obtain ⟨k, hk, rfl⟩ := List.getElem_of_mem hx
  have h5 : ((List.range needs.length).any fun k => wrongP (needs.getD k 0)) = false := by
    cases e : ((List.range needs.length).any fun k => wrongP (needs.getD k 0)) with
    | false => rfl
    | true => rw [e] at h4; cases h4
  have h6 := List.any_eq_false.1 h5 k (List.mem_range.2 hk)
  have e : needs.getD k 0 = needs[k] := by rw [List.getD_eq_getElem?_getD, List.getElem?_eq_getElem hk]; rfl
  simp only [e] at h6
  unfold wrongP at h6
  rw [Bool.or_eq_true, decide_eq_true_eq, decide_eq_true_eq] at h6
  omega
end Go.Proofs.Ytdhnjecbdclmaaa
end
section
namespace Go.Proofs.Ytdhnjecbdclmaaa
open Go.RowKit Go.Shelf Go.Proofs.YtdhnjecbdclmaaaW.PrintWords Go.Proofs.YtdhnjecbdclmaaaW.PrintMore
set_option linter.unusedVariables false
set_option linter.unusedSimpArgs false
theorem foldl_top (H : Nat → Int) : ∀ n (c : Int), 0 ≤ c → ((List.range n).map H).foldl max c = max c (topR H n) := by
  intro n
  induction n with
  | zero => intro c hc; show c = max c 0; omega
  | succ n ih =>
    intro c hc
    rw [List.range_succ, List.map_append, List.foldl_append, ih c hc]
    show max (max c (topR H n)) (H n) = max c (topR H (n + 1))
    have e : topR H (n + 1) = max (topR H n) (H n) := by unfold topR; show (if true = true then _ else _) = _; rw [if_pos rfl]
    rw [e]; omega
theorem maxOf_top (H : Nat → Int) {n : Nat} (hn : 0 < n) (h0 : 0 ≤ H 0) : Lib.maxOf ((List.range n).map H) = topR H n := by
  unfold Lib.maxOf
  have e : ((List.range n).map H).headD 0 = H 0 := by
    obtain ⟨m, rfl⟩ : ∃ m, n = m + 1 := ⟨n - 1, by omega⟩
    rw [List.range_succ_eq_map]; rfl
  rw [e, foldl_top H n (H 0) h0]
  have := maxR_ge (P := fun _ => true) (g := H) n 0 hn rfl
  unfold topR
  omega
theorem grows_of {n : Nat} {R S : Nat → Nat → Bool} {rk : Nat → Nat} (h : EqR n R S) (hg : Grows n S rk) : Grows n R rk := ⟨fun a b ha hb hr => hg.1 a b ha hb (by rw [← h a b ha hb]; exact hr), hg.2⟩
theorem rel_grows {p : List ByteArray} (hpl : planG p = true) (kind : Bool) : ∃ rk, Grows (boxesP p).length (relP p kind) rk := by
  unfold relP
  cases kind
  · exact (leftR_grows (planFlat hpl)).1
  · exact (aboveR_grows (planFlat hpl)).1
def kR (p : List ByteArray) (kind : Bool) : Nat → Nat → Bool := kRound (boxesP p).length (justB (clP p) kind (wallsL (clP p) p.length (wdP p))) (boxesP p).length
theorem kR_eq (p : List ByteArray) (kind : Bool) : EqR (boxesP p).length (kR p kind) (relP p kind) := by
  intro x y hx hy
  cases kind
  · exact rel_false p hx hy
  · exact rel_true p hx hy
theorem boxes_pos {p : List ByteArray} (hpl : planG p = true) : 0 < (boxesP p).length := by
  have f := planFlat hpl
  obtain ⟨k, hk, _⟩ := f.num 0 0 (by have := f.high; omega) (by have := f.wide; omega)
  omega
def sumP (p : List ByteArray) (kind : Bool) (v : Nat → Int) : Int := topR (heavyN (boxesP p).length (relP p kind) v) (boxesP p).length
theorem heavyMax (p : List ByteArray) (hpl : planG p = true) (kind : Bool) (v : Nat → Int) (hv : ∀ x, x < (boxesP p).length → 1 ≤ v x ∧ v x ≤ 9) (W : World) (g_ c : Nat) (h : NumsW W g_ (boxesP p).length (heavyN (boxesP p).length (kR p kind) v)) :
    Calls Try.prog 131 #[.slice (some ⟨g_, 0, none⟩) (boxesP p).length c] W fun e w' => e = .returned (.int .i64 (sumP p kind v)) ∧ w' = W := by
  have hp := boxes_pos hpl
  have hb := (planFlat hpl).few
  obtain ⟨rk, hg⟩ := rel_grows hpl kind
  have hg' := grows_of (kR_eq p kind) hg
  have := Try.slices_Max_int g_ 0 (boxesP p).length c ((List.range (boxesP p).length).map (heavyN (boxesP p).length (kR p kind) v)) W hp (by simp) (by omega) (fun j hj => by
    have hj' : j < (boxesP p).length := by simpa using hj
    rw [Nat.zero_add, (h.at hj').1]
    congr 2
    rw [List.getD_eq_getElem?_getD, List.getElem?_map, List.getElem?_range hj']
    rfl)
  rw [List.take_of_length_le (by simp)] at this
  rw [maxOf_top _ hp (by
    rw [heavyN_eq hg' hp]
    have := maxR_nonneg (fun a => kR p kind a 0) (heavyN (boxesP p).length (kR p kind) v) (boxesP p).length
    have := (hv 0 hp).1
    omega)] at this
  have e : topR (heavyN (boxesP p).length (kR p kind) v) (boxesP p).length = sumP p kind v := topR_cong fun a ha => heavyN_cong (kR_eq p kind) (fun _ _ => rfl) ha
  rwa [e] at this
theorem heaviest_p (p : List ByteArray) (hpl : planG p = true) (kind : Bool) (v : Nat → Int) (hv : ∀ x, x < (boxesP p).length → 1 ≤ v x ∧ v x ≤ 9) (g : Nat) (w : World) (hR : RelW w g (boxesP p).length (kR p kind)) (WA : Option Addr) (wc : Nat) (hwc : (boxesP p).length ≤ wc)
    (hWA : ∀ W, Below w.heap.size w W → ∀ x, x < (boxesP p).length → ∃ ad, WA = some ad ∧ W.cell? (ad.add x) = some (.int .i64 (v x))) :
    Calls Try.prog 132 #[.slice (some ⟨g, 0, none⟩) (boxesP p).length (boxesP p).length, .slice WA (boxesP p).length wc] w fun e w' => (∃ go_, e = .returned (.slice (some ⟨go_, 0, none⟩) (boxesP p).length (boxesP p).length) ∧ NumsW w' go_ (boxesP p).length (heavyN (boxesP p).length (kR p kind) v)) ∧ Below w.heap.size w w' := by
  obtain ⟨rk, hg⟩ := rel_grows hpl kind
  exact heaviest_any g (boxesP p).length (planFlat hpl).few (boxes_pos hpl) (kR p kind) rk v (grows_of (kR_eq p kind) hg) hv w hR WA wc hwc hWA
theorem needs_one {p : List ByteArray} {needs : List Int} (h : needsG p needs = true) : plainP p = true ∧ ∀ x, x < (boxesP p).length → 1 ≤ needs.getD x 0 ∧ needs.getD x 0 ≤ 9 := by
  have hl := (needsG_parts h).2.1
  unfold needsG at h
  obtain ⟨h1, h2⟩ := Bool.and_eq_true_iff.1 h
  obtain ⟨h3, h4⟩ := Bool.and_eq_true_iff.1 h2
  refine ⟨h1, fun x hx => ?_⟩
  simp only [Bool.not_eq_true', List.any_eq_false] at h4
  have h5 : wrongP (needs.getD x 0) = false := Bool.eq_false_iff.2 (h4 x (List.mem_range.2 (by omega)))
  unfold wrongP at h5
  rw [Bool.or_eq_false_iff, decide_eq_false_iff_not, decide_eq_false_iff_not] at h5
  omega
theorem field_left (W : World) (a b : Option Addr) (n m k l : Nat) : (Instr.field 101 (.agg #[.slice a n m, .slice b k l]) 0).run Try.prog W = .ok (.slice a n m) W := by kernel_rfl
theorem field_above (W : World) (a b : Option Addr) (n m k l : Nat) : (Instr.field 101 (.agg #[.slice a n m, .slice b k l]) 1).run Try.prog W = .ok (.slice b k l) W := by kernel_rfl
def sizeP (p : List ByteArray) (kind : Bool) (needs : List Int) : Int × Bool := if needsG p needs = true then (sumP p kind fun x => needs.getD x 0, true) else (0, false)
set_option maxRecDepth 100000 in
set_option maxHeartbeats 8000000 in
theorem sizeWide_any (A : Option Addr) (cap : Nat) (p : List ByteArray) (hp : SmallP p) (B : Option Addr) (nc : Nat) (needs : List Int) (hnl : needs.length ≤ 1048576) (w : World) (hr0 : Kd.C Kd.string w A p.length p) (hc0 : p.length ≤ cap) (hN : Kd.C (Kd.int .i64) w B needs.length needs) (hnc : needs.length ≤ nc) :
    Calls Try.prog 69 #[.slice A p.length cap, .slice B needs.length nc] w fun e w' => e = .returned (.tuple #[.int .i64 (sizeP p false needs).1, .bool (sizeP p false needs).2]) ∧ Below w.heap.size w w' := by
  have hb0 : Below w.heap.size w (w.alloc (.cells #[.slice B needs.length nc] 37)) := (Below.refl _ w).alloc (Nat.le_refl _) _
  have hl0 : (w.alloc (.cells #[.slice B needs.length nc] 37)).cell? ⟨w.heap.size, 0, none⟩ = some (.slice B needs.length nc) := by
    rw [Lib.cell_of_heap (heap_alloc_new w _)]; rfl
  have HND := needing_any A cap p hp w.heap.size 1 B nc needs hnl _ (Kd.C_below hr0 hb0) hc0 (by simp) hl0 (Kd.C_below hN hb0)
  have HNN := Aside0.mk hN
  have HB0 := Aside0.mk hb0
  clear hr0 hN hl0 hb0
  go_enter Try.func69, Try.ntmps69
  go_wp2_with fail
  refine HND.mono ?_
  rintro e w1 ⟨hb1, ⟨hg, fb, rfl, hfl⟩ | ⟨hg, rfl⟩⟩
  · obtain ⟨hpl, hlen, _⟩ := needsG_parts hg
    obtain ⟨_, hn9⟩ := needs_one hg
    have HB1 := Aside0.mk (HB0.out.trans (hb1.mono HB0.out.size))
    have HV : Aside0 (sizeP p false needs = (sumP p false fun x => needs.getD x 0, true)) := ⟨by unfold sizeP; rw [if_pos hg]⟩
    have HOR := Aside0.mk (orders_any fb p.length (wdP p) (clP p) (boxesP p) (planFlat hpl) w1 hfl)
    have HHV := Aside0.mk (fun g W (hW : RelW W g (boxesP p).length (kR p false)) (hB : Below w.heap.size w W) => heaviest_p p hpl false (fun x => needs.getD x 0) hn9 g W hW B nc (by omega) (fun W' hW' x hx => by
      have hC := Kd.C_below HNN.out (hB.trans (hW'.mono hB.size))
      obtain ⟨ad, e, h⟩ := Kd.at_int hC (x : Int) (by omega) (by omega)
      rw [Int.toNat_natCast] at h
      exact ⟨ad, e, h.trans (by unfold rd; rw [Int.toNat_natCast])⟩))
    have HMX := Aside0.mk (fun W g_ c h => heavyMax p hpl false (fun x => needs.getD x 0) hn9 W g_ c h)
    have HLN := Aside0.mk hlen
    clear hb1 hfl hg hn9
    go_wp2_with fail
    refine HOR.out.mono ?_
    rintro e w2 ⟨⟨g1, g2, rfl, l1, l2, r1, r2⟩, hb2⟩
    have HB2 := Aside0.mk (HB1.out.trans (hb2.mono HB1.out.size))
    have HC2 := Aside0.mk (HHV.out g1 w2 r1 HB2.out)
    clear l1 l2 r1 r2 hb2
    try rw [hlen]
    clear hlen
    obtain ⟨n, hn⟩ : ∃ n, (boxesP p).length = n := ⟨_, rfl⟩
    rw [hn] at HC2 ⊢
    have HMX2 := Aside0.mk HMX.out
    rw [hn] at HMX2
    clear hn
    have fl := field_left w2
    have fa := field_above w2
    go_wp2_with fail
    refine HC2.out.mono ?_
    rintro e w3 ⟨⟨go_, rfl, hnum⟩, hb3⟩
    have HB3 := Aside0.mk (HB2.out.trans (hb3.mono HB2.out.size))
    have HC3 := Aside0.mk (HMX2.out w3 go_ n hnum)
    clear hnum hb3
    go_wp2_with fail
    refine HC3.out.mono ?_
    rintro e w4 ⟨rfl, rfl⟩
    go_wp2_with fail
    go_ret2
    rw [HV.out]
    exact ⟨rfl, HB3.out⟩
  · have HB1 := Aside0.mk (HB0.out.trans (hb1.mono HB0.out.size))
    have HV : Aside0 (sizeP p false needs = (0, false)) := ⟨by unfold sizeP; rw [hg]; rfl⟩
    clear hb1 hg
    go_wp2_with fail
    go_ret2
    rw [HV.out]
    exact ⟨rfl, HB1.out⟩
set_option maxRecDepth 100000 in
set_option maxHeartbeats 8000000 in
theorem sizeHigh_any (A : Option Addr) (cap : Nat) (p : List ByteArray) (hp : SmallP p) (B : Option Addr) (nc : Nat) (needs : List Int) (hnl : needs.length ≤ 1048576) (w : World) (hr0 : Kd.C Kd.string w A p.length p) (hc0 : p.length ≤ cap) (hN : Kd.C (Kd.int .i64) w B needs.length needs) (hnc : needs.length ≤ nc) :
    Calls Try.prog 67 #[.slice A p.length cap, .slice B needs.length nc] w fun e w' => e = .returned (.tuple #[.int .i64 (sizeP p true needs).1, .bool (sizeP p true needs).2]) ∧ Below w.heap.size w w' := by
  have hb0 : Below w.heap.size w (w.alloc (.cells #[.slice B needs.length nc] 37)) := (Below.refl _ w).alloc (Nat.le_refl _) _
  have hl0 : (w.alloc (.cells #[.slice B needs.length nc] 37)).cell? ⟨w.heap.size, 0, none⟩ = some (.slice B needs.length nc) := by
    rw [Lib.cell_of_heap (heap_alloc_new w _)]; rfl
  have HND := needing_any A cap p hp w.heap.size 1 B nc needs hnl _ (Kd.C_below hr0 hb0) hc0 (by simp) hl0 (Kd.C_below hN hb0)
  have HNN := Aside0.mk hN
  have HB0 := Aside0.mk hb0
  clear hr0 hN hl0 hb0
  go_enter Try.func67, Try.ntmps67
  go_wp2_with fail
  refine HND.mono ?_
  rintro e w1 ⟨hb1, ⟨hg, fb, rfl, hfl⟩ | ⟨hg, rfl⟩⟩
  · obtain ⟨hpl, hlen, _⟩ := needsG_parts hg
    obtain ⟨_, hn9⟩ := needs_one hg
    have HB1 := Aside0.mk (HB0.out.trans (hb1.mono HB0.out.size))
    have HV : Aside0 (sizeP p true needs = (sumP p true fun x => needs.getD x 0, true)) := ⟨by unfold sizeP; rw [if_pos hg]⟩
    have HOR := Aside0.mk (orders_any fb p.length (wdP p) (clP p) (boxesP p) (planFlat hpl) w1 hfl)
    have HHV := Aside0.mk (fun g W (hW : RelW W g (boxesP p).length (kR p true)) (hB : Below w.heap.size w W) => heaviest_p p hpl true (fun x => needs.getD x 0) hn9 g W hW B nc (by omega) (fun W' hW' x hx => by
      have hC := Kd.C_below HNN.out (hB.trans (hW'.mono hB.size))
      obtain ⟨ad, e, h⟩ := Kd.at_int hC (x : Int) (by omega) (by omega)
      rw [Int.toNat_natCast] at h
      exact ⟨ad, e, h.trans (by unfold rd; rw [Int.toNat_natCast])⟩))
    have HMX := Aside0.mk (fun W g_ c h => heavyMax p hpl true (fun x => needs.getD x 0) hn9 W g_ c h)
    have HLN := Aside0.mk hlen
    clear hb1 hfl hg hn9
    go_wp2_with fail
    refine HOR.out.mono ?_
    rintro e w2 ⟨⟨g1, g2, rfl, l1, l2, r1, r2⟩, hb2⟩
    have HB2 := Aside0.mk (HB1.out.trans (hb2.mono HB1.out.size))
    have HC2 := Aside0.mk (HHV.out g2 w2 r2 HB2.out)
    clear l1 l2 r1 r2 hb2
    try rw [hlen]
    clear hlen
    obtain ⟨n, hn⟩ : ∃ n, (boxesP p).length = n := ⟨_, rfl⟩
    rw [hn] at HC2 ⊢
    have HMX2 := Aside0.mk HMX.out
    rw [hn] at HMX2
    clear hn
    have fl := field_left w2
    have fa := field_above w2
    go_wp2_with fail
    refine HC2.out.mono ?_
    rintro e w3 ⟨⟨go_, rfl, hnum⟩, hb3⟩
    have HB3 := Aside0.mk (HB2.out.trans (hb3.mono HB2.out.size))
    have HC3 := Aside0.mk (HMX2.out w3 go_ n hnum)
    clear hnum hb3
    go_wp2_with fail
    refine HC3.out.mono ?_
    rintro e w4 ⟨rfl, rfl⟩
    go_wp2_with fail
    go_ret2
    rw [HV.out]
    exact ⟨rfl, HB3.out⟩
  · have HB1 := Aside0.mk (HB0.out.trans (hb1.mono HB0.out.size))
    have HV : Aside0 (sizeP p true needs = (0, false)) := ⟨by unfold sizeP; rw [hg]; rfl⟩
    clear hb1 hg
    go_wp2_with fail
    go_ret2
    rw [HV.out]
    exact ⟨rfl, HB1.out⟩
end Go.Proofs.Ytdhnjecbdclmaaa
end
section
namespace Go.Proofs.Ytdhnjecbdclmaaa
open Go.RowKit Go.Shelf Go.Proofs.YtdhnjecbdclmaaaW.PrintWords Go.Proofs.YtdhnjecbdclmaaaW.PrintMore
set_option linter.unusedVariables false
set_option linter.unusedSimpArgs false
theorem mx_max (x y : Int) : mx x y = max x y := by unfold mx; split <;> omega
def numsL (o : Nat → Int) (n : Nat) : List Int := (List.range n).map o
theorem numsL_len (o : Nat → Int) (n : Nat) : (numsL o n).length = n := by simp [numsL]
theorem rd_nums {o : Nat → Int} {n a : Nat} (ha : a < n) : rd (numsL o n) (a : Int) = o a := by
  unfold rd numsL
  rw [Int.toNat_natCast, List.getD_eq_getElem?_getD, List.getElem?_map, List.getElem?_range ha]
  rfl
theorem nums_set {o : Nat → Int} {n b : Nat} (hb : b < n) (v : Int) : (numsL o n).set b v = numsL (setN o b v) n := by
  apply List.ext_getElem?
  intro i
  rw [List.getElem?_set]
  unfold numsL
  simp only [List.getElem?_map, List.length_map, List.length_range]
  by_cases e : b = i
  · subst e
    rw [if_pos rfl, if_pos hb, List.getElem?_range hb]
    simp [setN]
  · rw [if_neg e]
    by_cases hi : i < n
    · rw [List.getElem?_range hi]
      simp [setN, show ¬ i = b from fun h => e h.symm]
    · rw [List.getElem?_eq_none (by simp; omega)]; rfl
theorem step_yes {R : Nat → Nat → Bool} {w out : Nat → Int} {a b : Nat} (h : R a b = true) : stepP R w out a b = setN out b (max (out b) (out a + w a)) := by
  funext x
  unfold stepP setN
  by_cases e : x = b
  · rw [if_pos ⟨e, h⟩, if_pos e]
  · rw [if_neg (fun q => e q.1), if_neg e]
theorem step_no {R : Nat → Nat → Bool} {w out : Nat → Int} {a b : Nat} (h : R a b = false) : stepP R w out a b = out := by
  funext x
  unfold stepP
  rw [if_neg (by rw [h]; simp)]
section
variable {n : Nat} (hn : n ≤ 9) {R : Nat → Nat → Bool} {w P : Nat → Int} (hw : ∀ a, a < n → 0 ≤ w a ∧ w a ≤ 9) (hP : ∀ a b, a < n → b < n → R a b = true → P a + w a ≤ P b) (hPb : ∀ x, x < n → P x ≤ 1000)
  (x1 : List Int) (h1 : x1.length = n) (hx : ∀ a, a < n → rd x1 (a : Int) = w a)
include hn hw hP hPb h1 hx
theorem places_l2 (out : Nat → Int) (hO : LeP n P out) {t a : Nat} (ha : a < n) (ht : t ≤ n) {V : List Int} (hV : Ev (fun k => L10.spec_l7Places.l1 k x1 (setsL R n) (numsL (rowP R w out a n) n) (t : Int) ((a + 1 : Nat) : Int)) V) :
    ∀ d b, b + d = n → Ev (fun k => L10.spec_l7Places.l2 k x1 (setsL R n) (numsL (rowP R w out a b) n) (t : Int) (a : Int) (b : Int)) V := by
  intro d
  induction d with
  | zero =>
    intro b hb
    obtain rfl : b = n := by omega
    refine hV.step fun k => ?_
    show L10.spec_l7Places.l2 (k + 1) _ _ _ _ _ _ = _
    conv => lhs; unfold L10.spec_l7Places.l2
    rw [if_neg (by omega), wnxt a (by omega)]
  | succ d ih =>
    intro b hb
    have hbn : b < n := by omega
    have hE := ih (b + 1) (by omega)
    have hL := rowP_le (fun a h => (hw a h).1) hP hO ha b (by omega)
    have l1 := hL a ha
    have l2 := hL b hbn
    have p1 := hPb a ha
    have p2 := hPb b hbn
    have w1 := hw a ha
    refine hE.step fun k => ?_
    show L10.spec_l7Places.l2 (k + 1) _ _ _ _ _ _ = _
    conv => lhs; unfold L10.spec_l7Places.l2
    rw [if_pos (by omega), if_pos (by omega), if_pos (by rw [setsL_len]; omega), if_pos (by omega), rd_sets ha, and_shr hn _ hbn, rd_nums hbn, rd_nums ha, hx a ha, Int.toNat_natCast, wnxt b (by omega), mx_max]
    show _ = L10.spec_l7Places.l2 k x1 (setsL R n) (numsL (stepP R w (rowP R w out a b) a b) n) _ _ _
    cases hR : R a b with
    | true =>
      rw [if_pos (by simp), if_pos (by rw [numsL_len]; omega), if_pos (by rw [numsL_len]; omega), if_pos (by omega), nums_set hbn, step_yes hR]
      rw [show wrap64 (rowP R w out a b a + w a) = rowP R w out a b a + w a by rw [wrap64]; omega]
    | false =>
      rw [if_neg (by simp), step_no hR]
theorem places_l1 (out : Nat → Int) (hO : LeP n P out) {t : Nat} (ht : t < n) {V : List Int} (hV : Ev (fun k => L10.spec_l7Places.l0 k x1 (setsL R n) (numsL (rndP n R w out n) n) ((t + 1 : Nat) : Int)) V) :
    ∀ d a, a + d = n → Ev (fun k => L10.spec_l7Places.l1 k x1 (setsL R n) (numsL (rndP n R w out a) n) (t : Int) (a : Int)) V := by
  intro d
  induction d with
  | zero =>
    intro a ha
    obtain rfl : a = n := by omega
    refine hV.step fun k => ?_
    show L10.spec_l7Places.l1 (k + 1) _ _ _ _ _ = _
    conv => lhs; unfold L10.spec_l7Places.l1
    rw [if_neg (by omega), wnxt t (by omega)]
  | succ d ih =>
    intro a ha
    have hE := places_l2 hn hw hP hPb x1 h1 hx (rndP n R w out a) (rndP_le (fun a h => (hw a h).1) hP hO a (by omega)) (t := t) (a := a) (by omega) (by omega) (ih (a + 1) (by omega)) n 0 (by omega)
    refine hE.step fun k => ?_
    show L10.spec_l7Places.l1 (k + 1) _ _ _ _ _ = _
    conv => lhs; unfold L10.spec_l7Places.l1
    rw [if_pos (by omega)]
    rfl
theorem places_l0 (h0 : ∀ x, x < n → 0 ≤ P x) : ∀ d t, t + d = n → Ev (fun k => L10.spec_l7Places.l0 k x1 (setsL R n) (numsL (allP n R w t) n) (t : Int)) (numsL (allP n R w n) n) := by
  intro d
  induction d with
  | zero =>
    intro t ht
    obtain rfl : t = n := by omega
    refine Ev.now fun k => ?_
    conv => lhs; unfold L10.spec_l7Places.l0
    rw [if_neg (by omega)]
  | succ d ih =>
    intro t ht
    have hE := places_l1 hn hw hP hPb x1 h1 hx (allP n R w t) (allP_le (fun a h => (hw a h).1) hP h0 t) (t := t) (by omega) (ih (t + 1) (by omega)) n 0 (by omega)
    refine hE.step fun k => ?_
    show L10.spec_l7Places.l0 (k + 1) _ _ _ _ = _
    conv => lhs; unfold L10.spec_l7Places.l0
    rw [if_pos (by omega)]
    rfl
end
theorem least_l0 {n : Nat} (x1 : List Int) (h1 : x1.length = n) (hn : n ≤ 9) (w o : Nat → Int) (hx : ∀ a, a < n → rd x1 (a : Int) = w a) (hb : ∀ a, a < n → 0 ≤ o a + w a ∧ o a + w a ≤ 2000) : ∀ d a, a + d = n → Ev (fun k => L10.spec_l7Least.l0 k x1 (numsL o n) (topR (fun a => o a + w a) a) (a : Int)) (topR (fun a => o a + w a) n) := by
  intro d
  induction d with
  | zero =>
    intro a ha
    obtain rfl : a = n := by omega
    refine Ev.now fun k => ?_
    conv => lhs; unfold L10.spec_l7Least.l0
    rw [if_neg (by omega)]
  | succ d ih =>
    intro a ha
    have hE := ih (a + 1) (by omega)
    have hba := hb a (by omega)
    refine hE.step fun k => ?_
    show L10.spec_l7Least.l0 (k + 1) _ _ _ _ = _
    conv => lhs; unfold L10.spec_l7Least.l0
    rw [if_pos (by omega), if_pos (by omega), if_pos (by rw [numsL_len]; omega), rd_nums (by omega), hx a (by omega), wnxt a (by omega), mx_max, show wrap64 (o a + w a) = o a + w a by rw [wrap64]; omega]
    have e : topR (fun a => o a + w a) (a + 1) = max (topR (fun a => o a + w a) a) (o a + w a) := by unfold topR; show (if true = true then _ else _) = _; rw [if_pos rfl]
    rw [e]
end Go.Proofs.Ytdhnjecbdclmaaa
end
section
namespace Go.Proofs.Ytdhnjecbdclmaaa
open Go.RowKit Go.Shelf Go.Proofs.YtdhnjecbdclmaaaW.PrintWords Go.Proofs.YtdhnjecbdclmaaaW.PrintMore
set_option linter.unusedVariables false
theorem plan_roomsE {p : List ByteArray} (h : planG p = true) : Ev (fun n => L2.spec_l1Rooms.f n p) ((boxesP p).length : Int) := by
  obtain ⟨k, hk⟩ := plan_rooms h
  refine ⟨k, fun n hn => ?_⟩
  have hO := up (g := fun k' => L2.spec_l1Rooms.f k' p) (fun k' => L2.spec_l1Rooms.mono p k') hk (n - k)
  rwa [show k + (n - k) = n by omega] at hO
end Go.Proofs.Ytdhnjecbdclmaaa
end
