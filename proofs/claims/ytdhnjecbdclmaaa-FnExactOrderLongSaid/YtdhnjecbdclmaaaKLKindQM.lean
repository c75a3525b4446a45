/- Texts of this claim's, joined by a program: LKindQ, LKindR, LAsked, LSpecAll, LHeavy, LHeaviest, LFoldI, LSizeCut, LSizeWH, LSpecPlaces, LLongP, LRepeat. -/
import Derived.Test.YtdhnjecbdclmaaaKLJustP
import Derived.Test.YtdhnjecbdclmaaaKLFourDM
import Derived.Test.YtdhnjecbdclmaaaKLBitPM
import Derived.Test.YtdhnjecbdclmaaaKLOrders
import Derived.Laws.ResultCell
import Derived.Laws.Rows
import Derived.Test.YtdhnjecbdclmaaaKLL10x
import Derived.Test.YtdhnjecbdclmaaaKLSpecTextM
import Derived.Laws.EntriesVeiled
import Derived.Test.YtdhnjecbdclmaaaKLPartM
import Derived.Laws.IdiomCopy
import Derived.Deep.RegionHeld3
section
namespace Go.Proofs.Ytdhnjecbdclmaaa
open Go.RowKit Go.Shelf Go.Proofs.YtdhnjecbdclmaaaW.PrintWords Go.Proofs.YtdhnjecbdclmaaaW.PrintMore
set_option linter.unusedVariables false
set_option linter.unusedSimpArgs false
set_option linter.unusedSectionVars false
end Go.Proofs.Ytdhnjecbdclmaaa
end
section
namespace Go.Proofs.Ytdhnjecbdclmaaa
open Go.RowKit Go.Shelf Go.Proofs.YtdhnjecbdclmaaaW.PrintWords Go.Proofs.YtdhnjecbdclmaaaW.PrintMore
set_option linter.unusedVariables false
set_option linter.unusedSimpArgs false
end Go.Proofs.Ytdhnjecbdclmaaa
end
section
namespace Go.Proofs.Ytdhnjecbdclmaaa
open Go.RowKit Go.Shelf Go.Proofs.YtdhnjecbdclmaaaW.PrintWords Go.Proofs.YtdhnjecbdclmaaaW.PrintMore
set_option linter.unusedVariables false
set_option linter.unusedSimpArgs false
theorem results_row_tmp {P : Program} {fn : Func} {p u : Tmp} {ty : TypeId} (h : fn.results = #[.cell p ty, .tmp u]) (tmps : Array Value) (w : World) (g : Nat) (t : TypeId) (cs : Array Value) (fr : Nat × Nat) (d : TypeDesc)
    (hp : tmps.getD p undef = .pointer (some ⟨g, 0, none⟩)) (hg : w.heap[g]? = some (.cells cs t fr))
    (hu : P.underlying ty = some d) (hd : (match d with | .struct _ | .array _ _ => true | _ => false) = true) (hi : (P.info? ty).map (·.size) = some cs.size) :
    (results fn tmps).run P w = .ok (.tuple #[.agg cs, tmps.getD u undef]) w := by
  rw [results_cell_tmp h, hp]
  show (((loadVar ty ⟨g, 0, none⟩).run P w).andThen fun v w₂ => _) = _
  rw [run_loadVar_row w g t ty cs fr d hg hu hd hi]
  rfl
theorem RelW.later {W W' : World} {g n : Nat} {R : Nat → Nat → Bool} (h : RelW W g n R) (hb : Below W.heap.size W W') : RelW W' g n R :=
  h.keep fun k k1 k2 => hb.block k (by
    by_cases e : k = g
    · subst e; exact (Array.getElem?_eq_some_iff.1 h.top).1
    · have := (Array.getElem?_eq_some_iff.1 (h.row (k - g - 1) (by omega))).1; omega)
def OrdE (w w' : World) (p : List ByteArray) (e : Ending) : Prop := Below w.heap.size w w' ∧
  ((plainP p = true ∧ ∃ g1 g2, e = .returned (.tuple #[.agg #[.slice (some ⟨g1, 0, none⟩) (boxesP p).length (boxesP p).length, .slice (some ⟨g2, 0, none⟩) (boxesP p).length (boxesP p).length], .bool true]) ∧
      RelW w' g1 (boxesP p).length (kRound (boxesP p).length (justB (clP p) false (wallsL (clP p) p.length (wdP p))) (boxesP p).length) ∧ RelW w' g2 (boxesP p).length (kRound (boxesP p).length (justB (clP p) true (wallsL (clP p) p.length (wdP p))) (boxesP p).length)) ∨
   (plainP p = false ∧ e = .returned (.tuple #[.agg #[.slice none 0 0, .slice none 0 0], .bool false])))
set_option maxRecDepth 100000 in
set_option maxHeartbeats 8000000 in
theorem ordersOf_any (A : Option Addr) (cap : Nat) (p : List ByteArray) (hp : SmallP p) (w : World) (hr0 : Kd.C Kd.string w A p.length p) (hc0 : p.length ≤ cap) :
    Calls Try.prog 129 #[.slice A p.length cap] w fun e w' => OrdE w w' p e := by
  obtain ⟨W1, hW1⟩ : ∃ W1 : World, W1 = w.alloc (.cells #[.slice none 0 0, .slice none 0 0] 101) := ⟨_, rfl⟩
  have HB1 : Aside0 (Below w.heap.size w W1 ∧ W1.heap.size = w.heap.size + 1 ∧ W1.heap[w.heap.size]? = some (.cells #[.slice none 0 0, .slice none 0 0] 101 (0, 0))) := ⟨by rw [hW1]; exact ⟨(Below.refl _ _).alloc (Nat.le_refl _) _, by simp, heap_alloc_new w _⟩⟩
  have HPO := Aside0.mk (plainOf_any A cap p hp W1 (Kd.C_below hr0 HB1.out.1) hc0)
  clear hr0 hp
  go_enter Try.func129, Try.ntmps129
  go_wp2_with fail
  rw [← hW1]
  clear hW1
  refine HPO.out.mono ?_
  rintro e w1 ⟨hb1, ⟨hpl, fb, rfl, hfl⟩ | ⟨hpl, o, rfl⟩⟩
  · have hpg : planG p = true := by unfold plainP at hpl; exact (Bool.and_eq_true_iff.1 hpl).1
    have HO := Aside0.mk (orders_any fb p.length (wdP p) (clP p) (boxesP p) (planFlat hpg) w1 hfl)
    have HPL := Aside0.mk hpl
    have hr1 : w1.heap[w.heap.size]? = some (.cells #[.slice none 0 0, .slice none 0 0] 101 (0, 0)) := (hb1.block w.heap.size (by have := HB1.out.2.1; omega)).trans HB1.out.2.2
    have HR1 := Aside0.mk (And.intro hr1 hb1)
    clear hpl hpg hfl hb1 hr1
    go_wp2_with fail
    refine HO.out.mono ?_
    rintro e w2 ⟨⟨g1, g2, rfl, l1, l2, r1, r2⟩, hb2⟩
    have hlt : w.heap.size < w1.heap.size := (Array.getElem?_eq_some_iff.1 HR1.out.1).1
    have hr2 := (hb2.block w.heap.size hlt).trans HR1.out.1
    obtain ⟨z0, z1, z2, z3⟩ := pair_zero hr2
    have H2 := Aside0.mk (And.intro l1 (And.intro l2 (And.intro r1 (And.intro r2 (And.intro hb2 (And.intro hr2 hlt))))))
    clear l1 l2 r1 r2 hb2 hr2 hlt
    go_wp2_with fail
    obtain ⟨l1, l2, r1, r2, hb2, hr2, hlt⟩ := H2.out
    refine bodyPost_ret (results_row_tmp rfl _ _ w.heap.size 101 _ _ _ rfl (two_set (two_set hr2 _).1 _).2 Try.underlying101 rfl (by kernel_rfl)) rfl ?_
    have hbb : Below w.heap.size w w2 := HB1.out.1.trans ((HR1.out.2.trans (hb2.mono HR1.out.2.size)).mono (by have := HB1.out.2.1; omega))
    refine ⟨below_store2 hbb (Nat.le_refl _), .inl ⟨HPL.out, g1, g2, rfl, r1.keep fun k a b => ?_, r2.keep fun k a b => ?_⟩⟩
    · exact (Below.heap_setCell _ _ _ _ (by show k ≠ w.heap.size; omega)).trans (Below.heap_setCell _ _ _ _ (by show k ≠ w.heap.size; omega))
    · exact (Below.heap_setCell _ _ _ _ (by show k ≠ w.heap.size; omega)).trans (Below.heap_setCell _ _ _ _ (by show k ≠ w.heap.size; omega))
  · have hr1 : w1.heap[w.heap.size]? = some (.cells #[.slice none 0 0, .slice none 0 0] 101 (0, 0)) := (hb1.block w.heap.size (by have := HB1.out.2.1; omega)).trans HB1.out.2.2
    obtain ⟨z0, z1, z2, z3⟩ := pair_zero hr1
    have HR1 := Aside0.mk (And.intro hr1 hb1)
    have HPL := Aside0.mk hpl
    clear hpl hb1 hr1
    go_wp2_with fail
    refine bodyPost_ret (results_row_tmp rfl _ _ w.heap.size 101 _ _ _ rfl (two_set (two_set HR1.out.1 _).1 _).2 Try.underlying101 rfl (by kernel_rfl)) rfl ?_
    have hbb : Below w.heap.size w w1 := HB1.out.1.trans (HR1.out.2.mono (by have := HB1.out.2.1; omega))
    exact ⟨below_store2 hbb (Nat.le_refl _), .inr ⟨HPL.out, rfl⟩⟩
def relP (p : List ByteArray) (level : Bool) : Nat → Nat → Bool := if level then aboveR (clP p) p.length (wdP p) (boxesP p).length else leftR (clP p) p.length (wdP p) (boxesP p).length
theorem rel_false (p : List ByteArray) {x y : Nat} (hx : x < (boxesP p).length) (hy : y < (boxesP p).length) : kRound (boxesP p).length (justB (clP p) false (wallsL (clP p) p.length (wdP p))) (boxesP p).length x y = relP p false x y := kRound_close _ _ x y hx hy
theorem rel_true (p : List ByteArray) {x y : Nat} (hx : x < (boxesP p).length) (hy : y < (boxesP p).length) : kRound (boxesP p).length (justB (clP p) true (wallsL (clP p) p.length (wdP p))) (boxesP p).length x y = relP p true x y := kRound_close _ _ x y hx hy
end Go.Proofs.Ytdhnjecbdclmaaa
end
section
namespace Go.Proofs.Ytdhnjecbdclmaaa
open Go.RowKit Go.Shelf Go.Proofs.YtdhnjecbdclmaaaW.PrintWords Go.Proofs.YtdhnjecbdclmaaaW.PrintMore
set_option linter.unusedVariables false
set_option linter.unusedSimpArgs false
theorem bits_wrap {n : Nat} (hn : n ≤ 9) (R : Nat → Bool) : IntKind.i64.wrap ((bitsN R n : Nat) : Int) = ((bitsN R n : Nat) : Int) := by
  have := bitsN_small R hn
  rw [IntKind.wrap_i64]; omega
theorem or_sets {n : Nat} (hn : n ≤ 9) (R S : Nat → Bool) : Go.bits .or .i64 ((bitsN R n : Nat) : Int) ((bitsN S n : Nat) : Int) = ((bitsN (fun j => R j || S j) n : Nat) : Int) := by
  unfold Go.bits
  show IntKind.i64.wrap (((BitVec.ofInt 64 ((bitsN R n : Nat) : Int) ||| BitVec.ofInt 64 ((bitsN S n : Nat) : Int)).toNat : Nat) : Int) = _
  rw [or_int (bitsN_small R hn) (bitsN_small S hn), bits_or, bits_wrap hn]
theorem and_shr {n : Nat} (hn : n ≤ 9) (R : Nat → Bool) {c : Nat} (hc : c < n) : Go.bits .and .i64 (shr .i64 ((bitsN R n : Nat) : Int) (c : Int)) 1 = if R c = true then 1 else 0 := by
  have hm := bits_mem R n c
  have hs := bitsN_small R hn
  have e : shr .i64 ((bitsN R n : Nat) : Int) (c : Int) = ((bitsN R n / 2 ^ c : Nat) : Int) := by
    unfold shr
    rw [Int.toNat_natCast, show min c IntKind.i64.bits = c from Nat.min_eq_left (by show c ≤ 64; omega)]
    push_cast
    rfl
  rw [e]
  obtain ⟨q, hq⟩ : ∃ q, bitsN R n / 2 ^ c = q := ⟨_, rfl⟩
  have hq9 : q < 512 := by rw [← hq]; exact Nat.lt_of_le_of_lt (Nat.div_le_self _ _) hs
  rw [hq] at hm ⊢
  unfold Go.bits
  show IntKind.i64.wrap (((BitVec.ofInt 64 (q : Int) &&& BitVec.ofInt 64 1).toNat : Nat) : Int) = _
  rw [and_int hq9, hm]
  by_cases h : R c = true
  · rw [if_pos ⟨hc, h⟩, if_pos h]; decide
  · rw [if_neg (fun x => h x.2), if_neg h]; decide
theorem rd_sets {R : Nat → Nat → Bool} {n a : Nat} (ha : a < n) : rd (setsL R n) (a : Int) = ((bitsN (R a) n : Nat) : Int) := by
  unfold rd setsL
  rw [Int.toNat_natCast, List.getD_eq_getElem?_getD, List.getElem?_map, List.getElem?_range ha]
  rfl
theorem setsL_row {R : Nat → Nat → Bool} {n a c : Nat} (ha : a < n) (h : R a c = true) : (setsL R n).set a ((bitsN (fun j => R a j || R c j) n : Nat) : Int) = setsL (closeRow R c a) n := by
  apply List.ext_getElem?
  intro i
  rw [List.getElem?_set]
  unfold setsL
  simp only [List.getElem?_map, List.length_map, List.length_range]
  by_cases e : a = i
  · subst e
    rw [if_pos rfl, if_pos ha, List.getElem?_range ha]
    show some _ = some _
    congr 1
    show ((_ : Nat) : Int) = ((_ : Nat) : Int)
    congr 1
    apply bitsN_cong
    intro j hj
    unfold closeRow
    rw [if_pos rfl, h, Bool.true_and]
  · rw [if_neg e]
    by_cases hi : i < n
    · rw [List.getElem?_range hi]
      show some _ = some _
      congr 1
      show ((_ : Nat) : Int) = ((_ : Nat) : Int)
      congr 1
      apply bitsN_cong
      intro j hj
      unfold closeRow
      rw [if_neg (fun h => e h.symm)]
    · rw [List.getElem?_eq_none (by simp; omega)]; rfl
theorem closeRow_no {R : Nat → Nat → Bool} {c a : Nat} (h : R a c = false) : closeRow R c a = R := by
  funext x y
  unfold closeRow
  by_cases e : x = a
  · subst e; rw [if_pos rfl, h, Bool.false_and, Bool.or_false]
  · rw [if_neg e]
theorem wnxt (i : Nat) (hi : i ≤ 2000000) : wrap64 ((i : Int) + 1) = ((i + 1 : Nat) : Int) := by rw [wrap64]; omega
theorem all_l1 {n : Nat} (hn : n ≤ 9) (R : Nat → Nat → Bool) {c : Nat} (hc : c < n) {V : List Int} (hV : Ev (fun k => L10.spec_l5All.l0 k (setsL (closeA R c n) n) ((c + 1 : Nat) : Int)) V) : ∀ d a, a + d = n → Ev (fun k => L10.spec_l5All.l1 k (setsL (closeA R c a) n) (c : Int) (a : Int)) V := by
  intro d
  induction d with
  | zero =>
    intro a ha
    obtain rfl : a = n := by omega
    refine hV.step fun k => ?_
    show L10.spec_l5All.l1 (k + 1) _ _ _ = _
    conv => lhs; unfold L10.spec_l5All.l1
    rw [if_neg (by rw [setsL_len]; omega), wnxt c (by omega)]
  | succ d ih =>
    intro a ha
    have hE := ih (a + 1) (by omega)
    have han : a < n := by omega
    refine hE.step fun k => ?_
    show L10.spec_l5All.l1 (k + 1) _ _ _ = _
    conv => lhs; unfold L10.spec_l5All.l1
    rw [if_pos (by rw [setsL_len]; omega), if_pos (by omega), if_pos (by omega), rd_sets han, rd_sets hc, and_shr hn _ hc, or_sets hn, Int.toNat_natCast, wnxt a (by omega)]
    show _ = L10.spec_l5All.l1 k (setsL (closeRow (closeA R c a) c a) n) _ _
    cases hR : closeA R c a a c with
    | true =>
      rw [if_pos (by simp), if_pos (by rw [setsL_len]; omega), setsL_row han hR]
    | false =>
      rw [if_neg (by simp), closeRow_no hR]
theorem all_l0 {n : Nat} (hn : n ≤ 9) (R : Nat → Nat → Bool) : ∀ d c, c + d = n → Ev (fun k => L10.spec_l5All.l0 k (setsL (closeK n R c) n) (c : Int)) (setsL (closeB n R) n) := by
  intro d
  induction d with
  | zero =>
    intro c hc
    obtain rfl : c = n := by omega
    refine Ev.now fun k => ?_
    conv => lhs; unfold L10.spec_l5All.l0
    rw [if_neg (by rw [setsL_len]; omega)]
    rfl
  | succ d ih =>
    intro c hc
    have hE := all_l1 hn (closeK n R c) (c := c) (by omega) (ih (c + 1) (by omega)) n 0 (by omega)
    refine hE.step fun k => ?_
    show L10.spec_l5All.l0 (k + 1) _ _ = _
    conv => lhs; unfold L10.spec_l5All.l0
    rw [if_pos (by rw [setsL_len]; omega)]
    rfl
theorem all_ev (p : List ByteArray) (hpl : planG p = true) (kind : Bool) : Ev (fun k => L10.spec_l5All.f k p (orderI kind)) (setsL (relP p kind) (boxesP p).length) := by
  have hn := (planFlat hpl).few
  have h := all_l0 hn (justB (clP p) kind (wallsL (clP p) p.length (wdP p))) (boxesP p).length 0 (by omega)
  have hj : spec_l5Just.f p (orderI kind) = some (justS p kind) := by
    unfold spec_l5Just.f orderI
    rw [if_pos hpl]
    cases kind <;> rfl
  have hr : closeB (boxesP p).length (justB (clP p) kind (wallsL (clP p) p.length (wdP p))) = relP p kind := by
    unfold relP
    cases kind <;> rfl
  rw [hr] at h
  unfold L10.spec_l5All.f
  rw [hj]
  exact h
end Go.Proofs.Ytdhnjecbdclmaaa
end
section
namespace Go.Proofs.Ytdhnjecbdclmaaa
open Go.RowKit Go.Shelf Go.Proofs.YtdhnjecbdclmaaaW.PrintWords Go.Proofs.YtdhnjecbdclmaaaW.PrintMore
set_option linter.unusedVariables false
set_option linter.unusedSimpArgs false
theorem heavy_le {n : Nat} {R : Nat → Nat → Bool} {v : Nat → Int} {c : Int} (h0 : 0 ≤ c) (hv : ∀ x, x < n → v x ≤ c) : ∀ k b, b < n → heavy n R v k b ≤ c * k := by
  intro k
  induction k with
  | zero => intro b _; show (0 : Int) ≤ c * ((0 : Nat) : Int); simp
  | succ k ih =>
    intro b hb
    show maxR _ _ n + v b ≤ _
    have h1 : maxR (fun a => R a b) (heavy n R v k) n ≤ c * k := maxR_le (Int.mul_nonneg h0 (by omega)) n fun a ha _ => ih a ha
    have h2 := hv b hb
    have h3 : c * ((k + 1 : Nat) : Int) = c * (k : Int) + c := by
      rw [Int.natCast_add, Int.mul_add]; simp
    omega
def NumsW (W : World) (g n : Nat) (o : Nat → Int) : Prop := W.heap[g]? = some (.cells ((List.range n).map fun x => Value.int .i64 (o x)).toArray 3 (0, 0))
def setN (o : Nat → Int) (b : Nat) (v : Int) : Nat → Int := fun x => if x = b then v else o x
theorem NumsW.at {W : World} {g n : Nat} {o : Nat → Int} (h : NumsW W g n o) {b : Nat} (hb : b < n) : W.cell? ⟨g, b, none⟩ = some (.int .i64 (o b)) ∧ W.frozen? ⟨g, b, none⟩ = false := by
  refine ⟨?_, Lib.frozen_of_heap h b⟩
  rw [Lib.cell_of_heap h]
  simp [List.getElem?_range hb]
theorem NumsW.set {W : World} {g n : Nat} {o : Nat → Int} (h : NumsW W g n o) {b : Nat} (hb : b < n) (v : Int) : NumsW (W.setCell ⟨g, b, none⟩ (.int .i64 v)) g n (setN o b v) := by
  have h' : W.heap[g]? = _ := h
  have h1 : (W.setCell ⟨g, b, none⟩ (.int .i64 v)).heap[g]? = some (.cells (((List.range n).map fun x => Value.int .i64 (o x)).toArray.setIfInBounds b (.int .i64 v)) 3 (0, 0)) := by
    simp only [World.setCell, Array.getElem?_modify, if_pos rfl, h']
    rfl
  unfold NumsW
  rw [h1]
  congr 2
  apply Array.ext_getElem?
  intro j
  simp only [Array.getElem?_setIfInBounds, List.getElem?_toArray, List.getElem?_map, List.size_toArray, List.length_map, List.length_range]
  by_cases e : b = j
  · subst e
    rw [if_pos rfl, if_pos hb, List.getElem?_range hb]
    simp [setN]
  · rw [if_neg e]
    by_cases hj : j < n
    · rw [List.getElem?_range hj]
      simp [setN, show ¬ j = b from fun x => e x.symm]
    · rw [List.getElem?_eq_none (by simp; omega)]; rfl
structure HvI (w1 W : World) (s n : Nat) (o : Nat → Int) : Prop where
  below : Below (s + 2) w1 W
  boxO : W.heap[s + 3]? = w1.heap[s + 3]?
  boxF : W.heap[s + 4]? = w1.heap[s + 4]?
  row : NumsW W (s + 2) n o
  big : s + 5 ≤ W.heap.size
theorem HvI.drewN {w1 W : World} {s n : Nat} {o : Nat → Int} (h : HvI w1 W s n o) (q : Nat) : HvI w1 (W.drewN q) s n o := ⟨pw_below_drewN h.below q, h.boxO, h.boxF, h.row, h.big⟩
theorem HvI.set {w1 W : World} {s n : Nat} {o : Nat → Int} (h : HvI w1 W s n o) {b : Nat} (hb : b < n) (v : Int) : HvI w1 (W.setCell ⟨s + 2, b, none⟩ (.int .i64 v)) s n (setN o b v) :=
  ⟨Below.setCell (p := ⟨s + 2, b, none⟩) h.below (Nat.le_refl _) _, (Below.heap_setCell _ _ _ _ (by show s + 3 ≠ s + 2; omega)).trans h.boxO, (Below.heap_setCell _ _ _ _ (by show s + 4 ≠ s + 2; omega)).trans h.boxF, h.row.set hb v, by rw [World.size_setCell]; exact h.big⟩
def GoodN (n : Nat) (H o : Nat → Int) : Prop := ∀ x, x < n → o x = 0 ∨ o x = H x
def MonoN (n : Nat) (H o o' : Nat → Int) : Prop := ∀ x, x < n → o x = H x → o' x = H x
def hvFn (s : Nat) : Value := .func (.func 189) #[] #[.pointer (some ⟨s + 3, 0, none⟩), .pointer (some ⟨s, 0, none⟩), .pointer (some ⟨s + 4, 0, none⟩), .pointer (some ⟨s + 1, 0, none⟩)]
set_option maxRecDepth 100000 in
set_option maxHeartbeats 16000000 in
theorem heavy1_any (w1 : World) (s g n : Nat) (hn : n ≤ 9) (hg : g + n < s) (R : Nat → Nat → Bool) (rk : Nat → Nat) (v : Nat → Int) (hgr : Grows n R rk) (hv : ∀ x, x < n → 1 ≤ v x ∧ v x ≤ 9)
    (hR : RelW w1 g n R) (WA : Option Addr) (wc : Nat) (hWA : ∀ W, Below (s + 2) w1 W → ∀ x, x < n → ∃ ad, WA = some ad ∧ W.cell? (ad.add x) = some (.int .i64 (v x)))
    (c0 : w1.cell? ⟨s, 0, none⟩ = some (.slice (some ⟨g, 0, none⟩) n n)) (c1 : w1.cell? ⟨s + 1, 0, none⟩ = some (.slice WA n wc)) (hwc : n ≤ wc)
    (c3 : w1.cell? ⟨s + 3, 0, none⟩ = some (.slice (some ⟨s + 2, 0, none⟩) n n)) (c4 : w1.cell? ⟨s + 4, 0, none⟩ = some (hvFn s)) :
    ∀ K b, b < n → rk b < K → ∀ W o, HvI w1 W s n o → GoodN n (heavyN n R v) o →
      Calls Try.prog 189 #[.int .i64 b, .pointer (some ⟨s + 3, 0, none⟩), .pointer (some ⟨s, 0, none⟩), .pointer (some ⟨s + 4, 0, none⟩), .pointer (some ⟨s + 1, 0, none⟩)] W fun e W' => e = .returned (.int .i64 (heavyN n R v b)) ∧ ∃ o', HvI w1 W' s n o' ∧ GoodN n (heavyN n R v) o' ∧ MonoN n (heavyN n R v) o o' ∧ o' b = heavyN n R v b := by
  intro K
  induction K with
  | zero => intro b _ h; omega
  | succ K ih =>
    intro b hb hrk W o hI hG
    obtain ⟨H, hH⟩ : ∃ H, heavyN n R v = H := ⟨_, rfl⟩
    have hpos : ∀ x, x < n → 1 ≤ H x ∧ H x ≤ 1000 := fun x hx => by
      rw [← hH]
      constructor
      · rw [heavyN_eq hgr hx]
        have := maxR_nonneg (fun a => R a x) (heavyN n R v) n
        have := (hv x hx).1
        omega
      · have := heavy_le (R := R) (c := 9) (by omega) (fun x hx => (hv x hx).2) n x hx
        unfold heavyN
        omega
    have heq : H b = maxR (fun a => R a b) H n + v b := by rw [← hH]; exact heavyN_eq hgr hb
    have hmx : ∀ k, k ≤ n → 0 ≤ maxR (fun a => R a b) H k ∧ maxR (fun a => R a b) H k ≤ 1000 := fun k hk => ⟨maxR_nonneg _ _ _, maxR_le (by omega) k fun a ha _ => (hpos a (by omega)).2⟩
    rw [hH] at ih hG ⊢
    have HI := Aside0.mk (And.intro hI hG)
    have HIH : Aside0 (∀ a, a < n → R a b = true → ∀ W o, HvI w1 W s n o → GoodN n H o → Calls Try.prog 189 #[.int .i64 a, .pointer (some ⟨s + 3, 0, none⟩), .pointer (some ⟨s, 0, none⟩), .pointer (some ⟨s + 4, 0, none⟩), .pointer (some ⟨s + 1, 0, none⟩)] W fun e W' => e = .returned (.int .i64 (H a)) ∧ ∃ o', HvI w1 W' s n o' ∧ GoodN n H o' ∧ MonoN n H o o' ∧ o' a = H a) := ⟨fun a ha hr W o h1 h2 => ih a ha (by have := hgr.1 a b ha hb hr; omega) W o h1 h2⟩
    have HBX : Aside0 (∀ W o, HvI w1 W s n o → W.cell? ⟨s, 0, none⟩ = some (.slice (some ⟨g, 0, none⟩) n n) ∧ W.cell? ⟨s + 1, 0, none⟩ = some (.slice WA n wc) ∧ W.cell? ⟨s + 3, 0, none⟩ = some (.slice (some ⟨s + 2, 0, none⟩) n n) ∧ W.cell? ⟨s + 4, 0, none⟩ = some (hvFn s)) := ⟨fun W o h => ⟨(h.below.cell (p := ⟨s, 0, none⟩) (by show s < s + 2; omega)).trans c0, (h.below.cell (p := ⟨s + 1, 0, none⟩) (by show s + 1 < s + 2; omega)).trans c1, (World.cell?_of_block (w := w1) (a := ⟨s + 3, 0, none⟩) h.boxO).trans c3, (World.cell?_of_block (w := w1) (a := ⟨s + 4, 0, none⟩) h.boxF).trans c4⟩⟩
    have HRL : Aside0 (∀ W o, HvI w1 W s n o → RelW W g n R) := ⟨fun W o h => hR.keep fun k k1 k2 => h.below.block k (by omega)⟩
    have HWT : Aside0 (∀ W o, HvI w1 W s n o → ∃ ad, WA = some ad ∧ W.cell? (ad.add b) = some (.int .i64 (v b))) := ⟨fun W o h => hWA W h.below b hb⟩
    have HPS := Aside0.mk hpos
    have HEQ := Aside0.mk heq
    have HMX := Aside0.mk hmx
    have hvb := hv b hb
    have b0 : (0 : Int) ≤ (b : Int) := by omega
    have bn : (b : Int) < (n : Int) := by omega
    have HNB : Aside0 (0 < n) := ⟨by omega⟩
    clear ih hG hI hpos heq hmx hgr hv hR hWA c0 c1 c3 c4 hH
    obtain ⟨d0, d1, d3, d4⟩ := HBX.out W o HI.out.1
    obtain ⟨r1, r2⟩ := HI.out.1.row.at hb
    unfold hvFn at d4
    by_cases hob : o b = 0
    · rw [hob] at r1
      go_enter Try.func189, Try.ntmps189
      go_wp2_with fail
      clear d0 d1 d3 d4 r1 r2
      go_loopg [7, 16] n (fun gg s7 s16 wr => ∃ a : Nat, s16 = .int .i64 a ∧ a ≤ n ∧ n - a ≤ gg ∧ s7 = .int .i64 (maxR (fun x => R x b) H a) ∧ Aside0 (∃ o', HvI w1 wr s n o' ∧ GoodN n H o' ∧ MonoN n H o o'))
      case atStart => exact ⟨0, rfl, by omega, by omega, rfl, ⟨o, HI.out.1, HI.out.2, fun x hx h => h⟩⟩
      case round =>
        obtain ⟨a, rfl, ha, hgg, rfl, HD⟩ := hrel
        obtain ⟨o', HD'⟩ : ∃ o', Aside0 (HvI w1 wr s n o' ∧ GoodN n H o' ∧ MonoN n H o o') := by
          obtain ⟨o', h⟩ := HD.out
          exact ⟨o', ⟨h⟩⟩
        obtain ⟨d0, d1, d3, d4⟩ := HBX.out wr o' HD'.out.1
        unfold hvFn at d4
        have hma := HMX.out a ha
        obtain ⟨M, hM⟩ : ∃ M, maxR (fun x => R x b) H a = M := ⟨_, rfl⟩
        have HMM := Aside0.mk hM
        rw [hM] at hma
        rw [hM]
        clear hM
        by_cases hlt : (a : Int) < (n : Int)
        · have han : a < n := by omega
          have a0 : (0 : Int) ≤ (a : Int) := by omega
          have q1 := (HRL.out wr o' HD'.out.1).cell han
          have q2 := ((HRL.out wr o' HD'.out.1).at han hb).1
          have hpa := HPS.out a han
          cases hr : R a b with
          | true =>
            rw [hr] at q2
            have HCA := Aside0.mk (HIH.out a han hr wr o' HD'.out.1 HD'.out.2.1)
            have HRR := Aside0.mk hr
            clear hr
            obtain ⟨ha', hha⟩ : ∃ x, H a = x := ⟨_, rfl⟩
            rw [hha] at hpa HCA
            have HHA := Aside0.mk hha
            clear hha
            go_wp2_with fail
            refine HCA.out.mono ?_
            rintro e w3 ⟨rfl, o3, i1, i2, i3, i4⟩
            have H3 := Aside0.mk (And.intro i1 (And.intro i2 i3))
            clear i1 i2 i3 i4
            go_wp2_with fail
            go_roundg (n - (a + 1))
            case measure => omega
            case rel =>
              refine ⟨a + 1, by go_num, by omega, Nat.le_refl _, ?_, ⟨o3, H3.out.1, H3.out.2.1, fun x hx h => H3.out.2.2 x hx (HD'.out.2.2 x hx h)⟩⟩
              show _ = Value.int .i64 (if R a b = true then max (maxR (fun x => R x b) H a) (H a) else _)
              rw [HRR.out, if_pos rfl, HMM.out, HHA.out]
          | false =>
            rw [hr] at q2
            have HRR := Aside0.mk hr
            clear hr hpa
            go_wp2_with fail
            go_roundg (n - (a + 1))
            case measure => omega
            case rel =>
              refine ⟨a + 1, by go_num, by omega, Nat.le_refl _, ?_, HD⟩
              show _ = Value.int .i64 (if R a b = true then _ else (maxR (fun x => R x b) H a))
              rw [HRR.out, if_neg (by simp), HMM.out]
        · obtain rfl : a = n := by omega
          obtain ⟨aw, rfl, q3⟩ := HWT.out wr o' HD'.out.1
          obtain ⟨q4, q5⟩ := HD'.out.1.row.at hb
          obtain ⟨vb, hvb'⟩ : ∃ x, v b = x := ⟨_, rfl⟩
          rw [hvb'] at hvb q3
          have hval : H b = M + vb := by rw [HEQ.out, HMM.out, hvb']
          have HVL := Aside0.mk hval
          have HST := Aside0.mk ((HD'.out.1.drewN 1).set hb (M + vb))
          have e1 : IntKind.i64.wrap (M + vb) = M + vb := by rw [IntKind.wrap_i64]; omega
          clear hval hvb' hlt
          go_wp2_with fail
          refine wp_still_tail 9 (by kernel_rfl) (by kernel_rfl) ?_
          simp only [List.take_succ_cons, List.take_zero, List.drop_succ_cons, List.drop_zero]
          iterate 9 (refine @wpStill_step _ _ _ _ _ _ _ ?_; intro K hK; go_simp; refine hK _ ?_; clear hK K)
          refine @wpStill_nil _ _ _ _ _ ?_
          go_wp2_with fail
          go_ret
          refine ⟨by rw [HVL.out]; rfl, setN o' b (M + vb), HST.out, fun x hx => ?_, fun x hx hx2 => ?_, ?_⟩
          · unfold setN
            by_cases e : x = b
            · subst e; rw [if_pos rfl]; exact .inr HVL.out.symm
            · rw [if_neg e]; exact HD'.out.2.1 x hx
          · unfold setN
            by_cases e : x = b
            · subst e; rw [if_pos rfl]; exact HVL.out.symm
            · rw [if_neg e]; exact HD'.out.2.2 x hx hx2
          · unfold setN
            rw [if_pos rfl]; exact HVL.out.symm
    · have hoh : o b = H b := (HI.out.2 b hb).resolve_left hob
      have e0 : (H b == 0) = false := by
        have := (HPS.out b hb).1
        rw [beq_eq_false_iff_ne]; omega
      rw [hoh] at r1
      have HOH := Aside0.mk hoh
      clear hob hoh
      go_enter Try.func189, Try.ntmps189
      go_wp2_with fail
      go_ret
      exact ⟨rfl, o, HI.out.1, HI.out.2, fun x hx h => h, HOH.out⟩
end Go.Proofs.Ytdhnjecbdclmaaa
end
section
namespace Go.Proofs.Ytdhnjecbdclmaaa
open Go.RowKit Go.Shelf Go.Proofs.YtdhnjecbdclmaaaW.PrintWords Go.Proofs.YtdhnjecbdclmaaaW.PrintMore
set_option linter.unusedVariables false
set_option linter.unusedSimpArgs false
theorem RelW.lt {W : World} {g n : Nat} {R : Nat → Nat → Bool} (h : RelW W g n R) : g + n < W.heap.size := by
  by_cases e : n = 0
  · subst e; exact (Array.getElem?_eq_some_iff.1 h.top).1
  · have := (Array.getElem?_eq_some_iff.1 (h.row (n - 1) (by omega))).1; omega
set_option maxRecDepth 100000 in
set_option maxHeartbeats 16000000 in
theorem heaviest_any (g n : Nat) (hn : n ≤ 9) (hn0 : 0 < n) (R : Nat → Nat → Bool) (rk : Nat → Nat) (v : Nat → Int) (hgr : Grows n R rk) (hv : ∀ x, x < n → 1 ≤ v x ∧ v x ≤ 9) (w : World) (hR : RelW w g n R) (WA : Option Addr) (wc : Nat) (hwc : n ≤ wc)
    (hWA : ∀ W, Below w.heap.size w W → ∀ x, x < n → ∃ ad, WA = some ad ∧ W.cell? (ad.add x) = some (.int .i64 (v x))) :
    Calls Try.prog 132 #[.slice (some ⟨g, 0, none⟩) n n, .slice WA n wc] w fun e w' => (∃ go_, e = .returned (.slice (some ⟨go_, 0, none⟩) n n) ∧ NumsW w' go_ n (heavyN n R v)) ∧ Below w.heap.size w w' := by
  have mk1 : ∀ W : World, (Instr.makeSlice 37 (.int .i64 (n : Int)) (.int .i64 (n : Int))).run Try.prog W = .ok (.slice (some ⟨W.heap.size, 0, none⟩) n n) (W.alloc (.cells (madeCells #[.int .i64 0] n) 3)) :=
    print_make 37 3 .i64 8 Try.underlying37 (by kernel_rfl) (by omega) n (by omega)
  have hlt := hR.lt
  have H0 := Aside0.mk hR
  have H1 := Aside0.mk hgr
  have H2 := Aside0.mk hv
  have H3 := Aside0.mk hWA
  have n0 : (0 : Int) ≤ (n : Int) := by omega
  clear hR hgr hv hWA
  have hcell : ∀ W0 : World, W0 = (((((w.alloc (.cells #[.slice (some ⟨g, 0, none⟩) n n] 99)).alloc (.cells #[.slice WA n wc] 37)).alloc (.cells (madeCells #[.int .i64 0] n) 3)).alloc (.cells #[.slice (some ⟨w.heap.size + 1 + 1, 0, none⟩) n n] 37)).alloc (.cells #[(.func (.func 189) #[] #[.pointer (some ⟨w.heap.size + 1 + 1 + 1, 0, none⟩), .pointer (some ⟨w.heap.size, 0, none⟩), .pointer (some ⟨w.heap.size + 1 + 1 + 1 + 1, 0, none⟩), .pointer (some ⟨w.heap.size + 1, 0, none⟩)])] 54)) →
      (Below w.heap.size w W0 ∧ W0.heap.size = w.heap.size + 5) ∧ W0.heap[w.heap.size]? = some (.cells #[.slice (some ⟨g, 0, none⟩) n n] 99 (0, 0)) ∧ W0.heap[w.heap.size + 1]? = some (.cells #[.slice WA n wc] 37 (0, 0)) ∧ NumsW W0 (w.heap.size + 2) n (fun _ => 0) ∧ W0.heap[w.heap.size + 3]? = some (.cells #[.slice (some ⟨w.heap.size + 2, 0, none⟩) n n] 37 (0, 0)) ∧ W0.heap[w.heap.size + 4]? = some (.cells #[hvFn w.heap.size] 54 (0, 0)) := by
    intro W0 e
    have s1 : (w.alloc (.cells #[.slice (some ⟨g, 0, none⟩) n n] 99)).heap.size = w.heap.size + 1 := by simp
    obtain ⟨V1, h1⟩ : ∃ V, w.alloc (.cells #[.slice (some ⟨g, 0, none⟩) n n] 99) = V := ⟨_, rfl⟩
    have a1 : V1.heap[w.heap.size]? = some (.cells #[.slice (some ⟨g, 0, none⟩) n n] 99 (0, 0)) := by rw [← h1]; exact heap_alloc_new _ _
    have b1 : Below w.heap.size w V1 := by rw [← h1]; exact (Below.refl _ _).alloc (Nat.le_refl _) _
    rw [h1] at e s1
    obtain ⟨V2, h2⟩ : ∃ V, V1.alloc (.cells #[.slice WA n wc] 37) = V := ⟨_, rfl⟩
    have s2 : V2.heap.size = w.heap.size + 2 := by rw [← h2]; simp [s1]
    have a2 : V2.heap[w.heap.size + 1]? = some (.cells #[.slice WA n wc] 37 (0, 0)) := by rw [← h2, ← s1]; exact heap_alloc_new _ _
    have b2 : Below V1.heap.size V1 V2 := by rw [← h2]; exact (Below.refl _ _).alloc (Nat.le_refl _) _
    rw [h2] at e
    obtain ⟨V3, h3⟩ : ∃ V, V2.alloc (.cells (madeCells #[.int .i64 0] n) 3) = V := ⟨_, rfl⟩
    have s3 : V3.heap.size = w.heap.size + 3 := by rw [← h3]; simp [s2]
    have a3 : NumsW V3 (w.heap.size + 2) n (fun _ => 0) := by
      unfold NumsW
      rw [← h3, ← s2, heap_alloc_new, made_rep, List.map_const', List.length_range]
    have b3 : Below V2.heap.size V2 V3 := by rw [← h3]; exact (Below.refl _ _).alloc (Nat.le_refl _) _
    rw [h3] at e
    obtain ⟨V4, h4⟩ : ∃ V, V3.alloc (.cells #[.slice (some ⟨w.heap.size + 1 + 1, 0, none⟩) n n] 37) = V := ⟨_, rfl⟩
    have s4 : V4.heap.size = w.heap.size + 4 := by rw [← h4]; simp [s3]
    have a4 : V4.heap[w.heap.size + 3]? = some (.cells #[.slice (some ⟨w.heap.size + 2, 0, none⟩) n n] 37 (0, 0)) := by rw [← h4, ← s3]; exact heap_alloc_new _ _
    have b4 : Below V3.heap.size V3 V4 := by rw [← h4]; exact (Below.refl _ _).alloc (Nat.le_refl _) _
    rw [h4] at e
    have s5 : W0.heap.size = w.heap.size + 5 := by rw [e]; simp [s4]
    have a5 : W0.heap[w.heap.size + 4]? = some (.cells #[hvFn w.heap.size] 54 (0, 0)) := by
      have q := heap_alloc_new V4 (.cells #[hvFn w.heap.size] 54)
      rw [s4] at q
      rw [e]
      exact q
    have b5 : Below V4.heap.size V4 W0 := by rw [e]; exact (Below.refl _ _).alloc (Nat.le_refl _) _
    have k4 : ∀ j, j < w.heap.size + 4 → W0.heap[j]? = V4.heap[j]? := fun j hj => b5.block j (by omega)
    have k3 : ∀ j, j < w.heap.size + 3 → W0.heap[j]? = V3.heap[j]? := fun j hj => (k4 j (by omega)).trans (b4.block j (by omega))
    have k2 : ∀ j, j < w.heap.size + 2 → W0.heap[j]? = V2.heap[j]? := fun j hj => (k3 j (by omega)).trans (b3.block j (by omega))
    have k1 : ∀ j, j < w.heap.size + 1 → W0.heap[j]? = V1.heap[j]? := fun j hj => (k2 j (by omega)).trans (b2.block j (by omega))
    refine ⟨⟨b1.trans ((b2.trans ((b3.trans ((b4.trans (b5.mono (by omega))).mono (by omega))).mono (by omega))).mono (by omega)), s5⟩, (k1 _ (by omega)).trans a1, (k2 _ (by omega)).trans a2, (k3 _ (by omega)).trans a3, (k4 _ (by omega)).trans a4, a5⟩
  obtain ⟨W0, hW0⟩ : ∃ W0, W0 = (((((w.alloc (.cells #[.slice (some ⟨g, 0, none⟩) n n] 99)).alloc (.cells #[.slice WA n wc] 37)).alloc (.cells (madeCells #[.int .i64 0] n) 3)).alloc (.cells #[.slice (some ⟨w.heap.size + 1 + 1, 0, none⟩) n n] 37)).alloc (.cells #[(.func (.func 189) #[] #[.pointer (some ⟨w.heap.size + 1 + 1 + 1, 0, none⟩), .pointer (some ⟨w.heap.size, 0, none⟩), .pointer (some ⟨w.heap.size + 1 + 1 + 1 + 1, 0, none⟩), .pointer (some ⟨w.heap.size + 1, 0, none⟩)])] 54)) := ⟨_, rfl⟩
  have HC := Aside0.mk (hcell W0 hW0)
  clear hcell
  have HR0 : Aside0 (∀ b, b < n → ∀ W o, HvI W0 W w.heap.size n o → GoodN n (heavyN n R v) o → Calls Try.prog 189 #[.int .i64 b, .pointer (some ⟨w.heap.size + 3, 0, none⟩), .pointer (some ⟨w.heap.size, 0, none⟩), .pointer (some ⟨w.heap.size + 4, 0, none⟩), .pointer (some ⟨w.heap.size + 1, 0, none⟩)] W fun e W' => e = .returned (.int .i64 (heavyN n R v b)) ∧ ∃ o', HvI W0 W' w.heap.size n o' ∧ GoodN n (heavyN n R v) o' ∧ MonoN n (heavyN n R v) o o' ∧ o' b = heavyN n R v b) := ⟨fun b hb W o h1 h2 =>
    heavy1_any W0 w.heap.size g n hn hlt R rk v H1.out H2.out (H0.out.keep fun k k1 k2 => HC.out.1.1.block k (by omega)) WA wc (fun W hW x hx => H3.out W (HC.out.1.1.trans (hW.mono (by omega))) x hx)
      (by rw [Lib.cell_of_heap HC.out.2.1]; rfl) (by rw [Lib.cell_of_heap HC.out.2.2.1]; rfl) hwc (by rw [Lib.cell_of_heap HC.out.2.2.2.2.1]; rfl) (by rw [Lib.cell_of_heap HC.out.2.2.2.2.2]; rfl) n b hb (H1.out.2 b hb) W o h1 h2⟩
  have HI0 : Aside0 (HvI W0 W0 w.heap.size n (fun _ => 0) ∧ GoodN n (heavyN n R v) (fun _ => 0)) := ⟨⟨Below.refl _ _, rfl, rfl, HC.out.2.2.2.1, by rw [HC.out.1.2]; exact Nat.le_refl _⟩, fun x hx => .inl rfl⟩
  have HBX : Aside0 (∀ W o, HvI W0 W w.heap.size n o → W.cell? ⟨w.heap.size + 1 + 1 + 1, 0, none⟩ = some (.slice (some ⟨w.heap.size + 1 + 1, 0, none⟩) n n) ∧ W.cell? ⟨w.heap.size + 1 + 1 + 1 + 1, 0, none⟩ = some (hvFn w.heap.size) ∧ W.cell? ⟨w.heap.size, 0, none⟩ = some (.slice (some ⟨g, 0, none⟩) n n)) := ⟨fun W o h =>
    ⟨(World.cell?_of_block (w := W0) (a := ⟨w.heap.size + 3, 0, none⟩) h.boxO).trans (by rw [Lib.cell_of_heap HC.out.2.2.2.2.1]; rfl), (World.cell?_of_block (w := W0) (a := ⟨w.heap.size + 4, 0, none⟩) h.boxF).trans (by rw [Lib.cell_of_heap HC.out.2.2.2.2.2]; rfl), (h.below.cell (p := ⟨w.heap.size, 0, none⟩) (by show w.heap.size < w.heap.size + 2; omega)).trans (by rw [Lib.cell_of_heap HC.out.2.1]; rfl)⟩⟩
  go_enter Try.func132, Try.ntmps132
  go_wp2_with fail
  rw [← hW0]
  clear hW0 mk1
  go_loopg [14] n (fun gg s14 wr => ∃ b : Nat, s14 = .int .i64 b ∧ b ≤ n ∧ n - b ≤ gg ∧ Aside0 (∃ o, HvI W0 wr w.heap.size n o ∧ GoodN n (heavyN n R v) o ∧ ∀ x, x < b → o x = heavyN n R v x))
  case atStart => exact ⟨0, rfl, by omega, by omega, ⟨_, HI0.out.1, HI0.out.2, fun x hx => absurd hx (by omega)⟩⟩
  case round =>
    obtain ⟨b, rfl, hb, hgg, HD⟩ := hrel
    obtain ⟨o, HD'⟩ : ∃ o, Aside0 (HvI W0 wr w.heap.size n o ∧ GoodN n (heavyN n R v) o ∧ ∀ x, x < b → o x = heavyN n R v x) := by
      obtain ⟨o', h⟩ := HD.out
      exact ⟨o', ⟨h⟩⟩
    obtain ⟨d3, d4, d0⟩ := HBX.out wr o HD'.out.1
    unfold hvFn at d4
    by_cases hlt2 : (b : Int) < (n : Int)
    · have hbn : b < n := by omega
      have HCB := Aside0.mk (HR0.out b hbn wr o HD'.out.1 HD'.out.2.1)
      go_wp2_with fail
      refine HCB.out.mono ?_
      rintro e w3 ⟨rfl, o3, i1, i2, i3, i4⟩
      have H3' := Aside0.mk (And.intro i1 (And.intro i2 (And.intro i3 i4)))
      clear i1 i2 i3 i4
      go_wp2_with fail
      go_roundg (n - (b + 1))
      case measure => omega
      case rel =>
        refine ⟨b + 1, by go_num, by omega, Nat.le_refl _, ⟨o3, H3'.out.1, H3'.out.2.1, fun x hx => ?_⟩⟩
        by_cases e : x = b
        · subst e; exact H3'.out.2.2.2
        · exact H3'.out.2.2.1 x (by omega) (HD'.out.2.2 x (by omega))
    · obtain rfl : b = n := by omega
      go_wp2_with fail
      go_ret
      refine ⟨⟨w.heap.size + 2, rfl, ?_⟩, HC.out.1.1.trans (HD'.out.1.below.mono (by omega))⟩
      have h := HD'.out.1.row
      unfold NumsW at h ⊢
      rw [h]
      congr 3
      apply List.map_congr_left
      intro x hx
      rw [HD'.out.2.2 x (List.mem_range.1 hx)]
end Go.Proofs.Ytdhnjecbdclmaaa
end
section
namespace Go.Proofs.Ytdhnjecbdclmaaa
open Go.RowKit Go.Shelf Go.Proofs.YtdhnjecbdclmaaaW.PrintWords Go.Proofs.YtdhnjecbdclmaaaW.PrintMore
set_option linter.unusedVariables false
def NeedsAt (W : World) (nb : Nat) (needs : List Int) : Prop := nb < W.heap.size ∧ ∃ A c, W.cell? ⟨nb, 0, none⟩ = some (.slice A needs.length c) ∧ Kd.C (Kd.int .i64) W A needs.length needs
theorem NeedsAt.below {W W' : World} {nb : Nat} {needs : List Int} (h : NeedsAt W nb needs) (hb : Below W.heap.size W W') : NeedsAt W' nb needs := by
  obtain ⟨h1, A, c, h2, h3⟩ := h
  exact ⟨Nat.lt_of_lt_of_le h1 hb.size, A, c, (hb.cell (p := ⟨nb, 0, none⟩) h1).trans h2, Kd.C_below h3 hb⟩
end Go.Proofs.Ytdhnjecbdclmaaa
end
section
namespace Go.Proofs.Ytdhnjecbdclmaaa
open Go.RowKit Go.Shelf Go.Proofs.YtdhnjecbdclmaaaW.PrintWords Go.Proofs.YtdhnjecbdclmaaaW.PrintMore
set_option linter.unusedVariables false
set_option linter.unusedSimpArgs false
end Go.Proofs.Ytdhnjecbdclmaaa
end
section
namespace Go.Proofs.Ytdhnjecbdclmaaa
open Go.RowKit Go.Shelf Go.Proofs.YtdhnjecbdclmaaaW.PrintWords Go.Proofs.YtdhnjecbdclmaaaW.PrintMore
set_option linter.unusedVariables false
set_option linter.unusedSimpArgs false
theorem foldl_top (H : Nat → Int) : ∀ n (c : Int), 0 ≤ c → ((List.range n).map H).foldl max c = max c (topR H n) := by
  intro n
  induction n with
  | zero => intro c hc; show c = max c 0; omega
  | succ n ih =>
    intro c hc
    rw [List.range_succ, List.map_append, List.foldl_append, ih c hc]
    show max (max c (topR H n)) (H n) = max c (topR H (n + 1))
    have e : topR H (n + 1) = max (topR H n) (H n) := by unfold topR; show (if true = true then _ else _) = _; rw [if_pos rfl]
    rw [e]; omega
theorem maxOf_top (H : Nat → Int) {n : Nat} (hn : 0 < n) (h0 : 0 ≤ H 0) : Lib.maxOf ((List.range n).map H) = topR H n := by
  unfold Lib.maxOf
  have e : ((List.range n).map H).headD 0 = H 0 := by
    obtain ⟨m, rfl⟩ : ∃ m, n = m + 1 := ⟨n - 1, by omega⟩
    rw [List.range_succ_eq_map]; rfl
  rw [e, foldl_top H n (H 0) h0]
  have := maxR_ge (P := fun _ => true) (g := H) n 0 hn rfl
  unfold topR
  omega
theorem grows_of {n : Nat} {R S : Nat → Nat → Bool} {rk : Nat → Nat} (h : EqR n R S) (hg : Grows n S rk) : Grows n R rk := ⟨fun a b ha hb hr => hg.1 a b ha hb (by rw [← h a b ha hb]; exact hr), hg.2⟩
theorem rel_grows {p : List ByteArray} (hpl : planG p = true) (kind : Bool) : ∃ rk, Grows (boxesP p).length (relP p kind) rk := by
  unfold relP
  cases kind
  · exact (leftR_grows (planFlat hpl)).1
  · exact (aboveR_grows (planFlat hpl)).1
def kR (p : List ByteArray) (kind : Bool) : Nat → Nat → Bool := kRound (boxesP p).length (justB (clP p) kind (wallsL (clP p) p.length (wdP p))) (boxesP p).length
theorem kR_eq (p : List ByteArray) (kind : Bool) : EqR (boxesP p).length (kR p kind) (relP p kind) := by
  intro x y hx hy
  cases kind
  · exact rel_false p hx hy
  · exact rel_true p hx hy
theorem boxes_pos {p : List ByteArray} (hpl : planG p = true) : 0 < (boxesP p).length := by
  have f := planFlat hpl
  obtain ⟨k, hk, _⟩ := f.num 0 0 (by have := f.high; omega) (by have := f.wide; omega)
  omega
def sumP (p : List ByteArray) (kind : Bool) (v : Nat → Int) : Int := topR (heavyN (boxesP p).length (relP p kind) v) (boxesP p).length
theorem heavyMax (p : List ByteArray) (hpl : planG p = true) (kind : Bool) (v : Nat → Int) (hv : ∀ x, x < (boxesP p).length → 1 ≤ v x ∧ v x ≤ 9) (W : World) (g_ c : Nat) (h : NumsW W g_ (boxesP p).length (heavyN (boxesP p).length (kR p kind) v)) :
    Calls Try.prog 131 #[.slice (some ⟨g_, 0, none⟩) (boxesP p).length c] W fun e w' => e = .returned (.int .i64 (sumP p kind v)) ∧ w' = W := by
  have hp := boxes_pos hpl
  have hb := (planFlat hpl).few
  obtain ⟨rk, hg⟩ := rel_grows hpl kind
  have hg' := grows_of (kR_eq p kind) hg
  have := Try.slices_Max_int g_ 0 (boxesP p).length c ((List.range (boxesP p).length).map (heavyN (boxesP p).length (kR p kind) v)) W hp (by simp) (by omega) (fun j hj => by
    have hj' : j < (boxesP p).length := by simpa using hj
    rw [Nat.zero_add, (h.at hj').1]
    congr 2
    rw [List.getD_eq_getElem?_getD, List.getElem?_map, List.getElem?_range hj']
    rfl)
  rw [List.take_of_length_le (by simp)] at this
  rw [maxOf_top _ hp (by
    rw [heavyN_eq hg' hp]
    have := maxR_nonneg (fun a => kR p kind a 0) (heavyN (boxesP p).length (kR p kind) v) (boxesP p).length
    have := (hv 0 hp).1
    omega)] at this
  have e : topR (heavyN (boxesP p).length (kR p kind) v) (boxesP p).length = sumP p kind v := topR_cong fun a ha => heavyN_cong (kR_eq p kind) (fun _ _ => rfl) ha
  rwa [e] at this
theorem heaviest_p (p : List ByteArray) (hpl : planG p = true) (kind : Bool) (v : Nat → Int) (hv : ∀ x, x < (boxesP p).length → 1 ≤ v x ∧ v x ≤ 9) (g : Nat) (w : World) (hR : RelW w g (boxesP p).length (kR p kind)) (WA : Option Addr) (wc : Nat) (hwc : (boxesP p).length ≤ wc)
    (hWA : ∀ W, Below w.heap.size w W → ∀ x, x < (boxesP p).length → ∃ ad, WA = some ad ∧ W.cell? (ad.add x) = some (.int .i64 (v x))) :
    Calls Try.prog 132 #[.slice (some ⟨g, 0, none⟩) (boxesP p).length (boxesP p).length, .slice WA (boxesP p).length wc] w fun e w' => (∃ go_, e = .returned (.slice (some ⟨go_, 0, none⟩) (boxesP p).length (boxesP p).length) ∧ NumsW w' go_ (boxesP p).length (heavyN (boxesP p).length (kR p kind) v)) ∧ Below w.heap.size w w' := by
  obtain ⟨rk, hg⟩ := rel_grows hpl kind
  exact heaviest_any g (boxesP p).length (planFlat hpl).few (boxes_pos hpl) (kR p kind) rk v (grows_of (kR_eq p kind) hg) hv w hR WA wc hwc hWA
end Go.Proofs.Ytdhnjecbdclmaaa
end
section
namespace Go.Proofs.Ytdhnjecbdclmaaa
open Go.RowKit Go.Shelf Go.Proofs.YtdhnjecbdclmaaaW.PrintWords Go.Proofs.YtdhnjecbdclmaaaW.PrintMore
set_option linter.unusedVariables false
set_option linter.unusedSimpArgs false
theorem mx_max (x y : Int) : mx x y = max x y := by unfold mx; split <;> omega
def numsL (o : Nat → Int) (n : Nat) : List Int := (List.range n).map o
theorem numsL_len (o : Nat → Int) (n : Nat) : (numsL o n).length = n := by simp [numsL]
theorem rd_nums {o : Nat → Int} {n a : Nat} (ha : a < n) : rd (numsL o n) (a : Int) = o a := by
  unfold rd numsL
  rw [Int.toNat_natCast, List.getD_eq_getElem?_getD, List.getElem?_map, List.getElem?_range ha]
  rfl
theorem nums_set {o : Nat → Int} {n b : Nat} (hb : b < n) (v : Int) : (numsL o n).set b v = numsL (setN o b v) n := by
  apply List.ext_getElem?
  intro i
  rw [List.getElem?_set]
  unfold numsL
  simp only [List.getElem?_map, List.length_map, List.length_range]
  by_cases e : b = i
  · subst e
    rw [if_pos rfl, if_pos hb, List.getElem?_range hb]
    simp [setN]
  · rw [if_neg e]
    by_cases hi : i < n
    · rw [List.getElem?_range hi]
      simp [setN, show ¬ i = b from fun h => e h.symm]
    · rw [List.getElem?_eq_none (by simp; omega)]; rfl
section
variable {n : Nat} (hn : n ≤ 9) {R : Nat → Nat → Bool} {w P : Nat → Int} (hw : ∀ a, a < n → 0 ≤ w a ∧ w a ≤ 9) (hP : ∀ a b, a < n → b < n → R a b = true → P a + w a ≤ P b) (hPb : ∀ x, x < n → P x ≤ 1000)
  (x1 : List Int) (h1 : x1.length = n) (hx : ∀ a, a < n → rd x1 (a : Int) = w a)
include hn hw hP hPb h1 hx
end
end Go.Proofs.Ytdhnjecbdclmaaa
end
section
namespace Go.Proofs.Ytdhnjecbdclmaaa
set_option linter.unusedVariables false
set_option linter.unusedSimpArgs false
def inL (R : Nat → Nat → Bool) (best : Nat → Int) (a : Nat) : Nat → Nat → Int
  | 0 => fun x => if x = a then max (best a) 1 else best x
  | k + 1 => fun x => if x = a ∧ R a k = true then max (inL R best a k a) (1 + inL R best a k k) else inL R best a k x
def rnL (n : Nat) (R : Nat → Nat → Bool) (best : Nat → Int) (most : Int) : Nat → (Nat → Int) × Int
  | 0 => (best, most)
  | m + 1 => (inL R (rnL n R best most m).1 m n, max (rnL n R best most m).2 (inL R (rnL n R best most m).1 m n m))
def alL (n : Nat) (R : Nat → Nat → Bool) : Nat → (Nat → Int) × Int
  | 0 => (fun _ => 0, 0)
  | t + 1 => rnL n R (alL n R t).1 (alL n R t).2 n
theorem inL_ge (R : Nat → Nat → Bool) (best : Nat → Int) (a x : Nat) : ∀ k, best x ≤ inL R best a k x := by
  intro k
  induction k with
  | zero =>
    unfold inL
    split
    · rename_i e; rw [e]; omega
    · exact Int.le_refl _
  | succ k ih =>
    unfold inL
    split
    · rename_i e
      rw [e.1] at ih ⊢
      omega
    · exact ih
theorem inL_one (R : Nat → Nat → Bool) (best : Nat → Int) (a : Nat) : ∀ k, 1 ≤ inL R best a k a := by
  intro k
  induction k with
  | zero => unfold inL; rw [if_pos rfl]; omega
  | succ k ih => unfold inL; split <;> omega
theorem inL_hit (R : Nat → Nat → Bool) (best : Nat → Int) (a b : Nat) (hr : R a b = true) : ∀ k, b < k → 1 + best b ≤ inL R best a k a := by
  intro k
  induction k with
  | zero => intro h; omega
  | succ k ih =>
    intro h
    by_cases e : b = k
    · subst e
      have := inL_ge R best a b b
      unfold inL
      rw [if_pos ⟨rfl, hr⟩]
      omega
    · have := ih (by omega)
      unfold inL
      split <;> omega
theorem rnL_ge (n : Nat) (R : Nat → Nat → Bool) (best : Nat → Int) (most : Int) (x : Nat) : ∀ m, best x ≤ (rnL n R best most m).1 x := by
  intro m
  induction m with
  | zero => exact Int.le_refl _
  | succ m ih => exact Int.le_trans ih (inL_ge R _ m x n)
theorem rnL_most (n : Nat) (R : Nat → Nat → Bool) (best : Nat → Int) (most : Int) (x : Nat) (hx : x < n) : ∀ m, x < m → best x ≤ (rnL n R best most m).2 ∧ 1 ≤ (rnL n R best most m).1 x ∧ (∀ b, b < n → R x b = true → 1 + best b ≤ (rnL n R best most m).1 x ∧ 1 + best b ≤ (rnL n R best most m).2) ∧ 1 ≤ (rnL n R best most m).2 := by
  intro m
  induction m with
  | zero => intro h; omega
  | succ m ih =>
    intro h
    by_cases e : x = m
    · subst e
      have g1 := rnL_ge n R best most x x
      have g2 := inL_ge R (rnL n R best most x).1 x x n
      have g3 := inL_one R (rnL n R best most x).1 x n
      refine ⟨?_, g3, fun b hb hr => ?_, ?_⟩
      · show _ ≤ max _ _; omega
      · have g4 := inL_hit R (rnL n R best most x).1 x b hr n hb
        have g5 := rnL_ge n R best most b x
        refine ⟨?_, ?_⟩
        · show _ ≤ inL R (rnL n R best most x).1 x n x; omega
        · show _ ≤ max _ _; omega
      · show _ ≤ max _ _; omega
    · obtain ⟨h1, h2, h3, h4⟩ := ih (by omega)
      have g1 := inL_ge R (rnL n R best most m).1 m x n
      refine ⟨?_, ?_, fun b hb hr => ?_, ?_⟩
      · show _ ≤ max _ _; omega
      · show _ ≤ inL R (rnL n R best most m).1 m n x; omega
      · obtain ⟨k1, k2⟩ := h3 b hb hr
        refine ⟨?_, ?_⟩
        · show _ ≤ inL R (rnL n R best most m).1 m n x; omega
        · show _ ≤ max _ _; omega
      · show _ ≤ max _ _; omega
theorem inL_le {n : Nat} {R : Nat → Nat → Bool} {F : Nat → Int} (h1 : ∀ x, x < n → 1 ≤ F x) (hF : ∀ a b, a < n → b < n → R a b = true → F b + 1 ≤ F a) {best : Nat → Int} (h : LeP n F best) {a : Nat} (ha : a < n) : ∀ k, k ≤ n → LeP n F (inL R best a k) := by
  intro k
  induction k with
  | zero =>
    intro _ x hx
    have := h x hx
    have := h1 x hx
    unfold inL
    split
    · rename_i e; subst e; omega
    · omega
  | succ k ih =>
    intro hk x hx
    have g := ih (by omega)
    have g1 := g x hx
    have g2 := g k (by omega)
    unfold inL
    split
    · rename_i e
      have g3 := hF a k ha (by omega) e.2
      rw [e.1] at g1 ⊢
      omega
    · exact g1
theorem alL_inv {n : Nat} {R : Nat → Nat → Bool} {F : Nat → Int} (h1 : ∀ x, x < n → 1 ≤ F x) (hF : ∀ a b, a < n → b < n → R a b = true → F b + 1 ≤ F a) {M : Int} (h0 : 0 ≤ M) (hM : ∀ x, x < n → F x ≤ M) : ∀ t, LeP n F (alL n R t).1 ∧ (alL n R t).2 ≤ M := by
  intro t
  induction t with
  | zero => exact ⟨fun x hx => ⟨Int.le_refl _, by have := h1 x hx; show (0 : Int) ≤ F x; omega⟩, h0⟩
  | succ t ih =>
    have aux : ∀ m, m ≤ n → LeP n F (rnL n R (alL n R t).1 (alL n R t).2 m).1 ∧ (rnL n R (alL n R t).1 (alL n R t).2 m).2 ≤ M := by
      intro m
      induction m with
      | zero => intro _; exact ih
      | succ m ihm =>
        intro hm
        obtain ⟨g1, g2⟩ := ihm (by omega)
        have g3 := inL_le h1 hF g1 (a := m) (by omega) n (Nat.le_refl _)
        have g4 := (g3 m (by omega)).2
        have g5 := hM m (by omega)
        refine ⟨g3, ?_⟩
        show max _ _ ≤ M
        omega
    exact aux n (Nat.le_refl _)
theorem alL_top {n : Nat} {R : Nat → Nat → Bool} {rk : Nat → Nat} (hg : Grows n (fun x y => R y x) rk) : (alL n R n).2 = topR (heavyF n R) n := by
  have hF : ∀ a, a < n → heavyF n R a = maxR (fun b => R a b) (heavyF n R) n + 1 := fun a ha => heavyN_eq (R := fun x y => R y x) hg ha
  have h1 : ∀ x, x < n → 1 ≤ heavyF n R x := fun x hx => by
    rw [hF x hx]
    have := maxR_nonneg (fun b => R x b) (heavyF n R) n
    omega
  have h2 : ∀ a b, a < n → b < n → R a b = true → heavyF n R b + 1 ≤ heavyF n R a := fun a b ha hb hr => by
    rw [hF a ha]
    have := maxR_ge (P := fun b => R a b) (g := heavyF n R) n b hb hr
    omega
  have hM : ∀ x, x < n → heavyF n R x ≤ topR (heavyF n R) n := fun x hx => maxR_ge (P := fun _ => true) n x hx rfl
  have hinv := alL_inv h1 h2 (maxR_nonneg _ _ _) hM
  have hfull : ∀ t a, a < n → rk a < t → (alL n R t).1 a = heavyF n R a ∧ heavyF n R a ≤ (alL n R t).2 := by
    intro t
    induction t with
    | zero => intro a _ h; omega
    | succ t ih =>
      intro a ha hr
      obtain ⟨m1, m2, m3, m4⟩ := rnL_most n R (alL n R t).1 (alL n R t).2 a ha n ha
      change 1 ≤ (alL n R (t + 1)).1 a at m2
      change 1 ≤ (alL n R (t + 1)).2 at m4
      have hle := ((hinv (t + 1)).1 a ha).2
      rcases maxR_some (P := fun b => R a b) (g := heavyF n R) n with e | ⟨b, b1, b2, b3⟩
      · have hv := hF a ha
        rw [e] at hv
        omega
      · have hv := hF a ha
        rw [b3] at hv
        have hrk := hg.1 b a b1 ha b2
        have hb := (ih b b1 (by omega)).1
        obtain ⟨k1, k2⟩ := m3 b b1 b2
        change _ ≤ (alL n R (t + 1)).1 a at k1
        change _ ≤ (alL n R (t + 1)).2 at k2
        omega
  refine Int.le_antisymm (hinv n).2 ?_
  refine maxR_le ?_ n fun a ha _ => (hfull n a ha (hg.2 a ha)).2
  rcases Nat.eq_zero_or_pos n with e | e
  · subst e; exact Int.le_refl _
  · have := (hfull n 0 e (hg.2 0 e)).2
    have := h1 0 e
    omega
end Go.Proofs.Ytdhnjecbdclmaaa
end
section
namespace Go.Proofs.Ytdhnjecbdclmaaa
open Go.RowKit Go.Shelf Go.Proofs.YtdhnjecbdclmaaaW.PrintWords Go.Proofs.YtdhnjecbdclmaaaW.PrintMore
set_option linter.unusedVariables false
set_option linter.unusedSimpArgs false
theorem below_setCells {g : Nat} {w : World} (vs : List Value) : ∀ (o : Nat) {W : World}, Below g w W → Below g w (W.setCells g o vs) := by
  induction vs with
  | nil => intro o W h; exact h
  | cons v vs ih => intro o W h; exact ih (o + 1) (Below.setCell (p := ⟨g, o, none⟩) h (Nat.le_refl _) v)
def onesTo (k : Nat) : Nat → Int := fun x => if x < k then 1 else 0
theorem ones_set {W : World} {g n k m : Nat} (h : NumsW W g n (onesTo k)) (hk : k + m ≤ n) : NumsW (W.setCells g k (List.replicate m (Value.int .i64 1))) g n (onesTo (k + m)) := by
  have h' : W.heap[g]? = some (.cells ((List.range n).map fun x => Value.int .i64 (onesTo k x)).toArray 3 (0, 0)) := h
  obtain ⟨cur', p1, p2, p3⟩ := setCells_row (List.replicate m (Value.int .i64 1)) k W _ h' (by simp; omega)
  unfold NumsW
  rw [p1]
  congr 2
  apply Array.toList_inj.1
  rw [p3]
  apply List.ext_getElem?
  intro i
  simp only [List.length_replicate, List.toList_toArray]
  by_cases hi : i < n
  · rw [List.getElem?_map, List.getElem?_range hi]
    show _ = some (Value.int .i64 (onesTo (k + m) i))
    by_cases c1 : i < k
    · rw [List.append_assoc, List.getElem?_append_left (by simp; omega), List.getElem?_take_of_lt c1, List.getElem?_map, List.getElem?_range hi]
      show some (Value.int .i64 (onesTo k i)) = _
      unfold onesTo
      rw [if_pos c1, if_pos (by omega)]
    · by_cases c2 : i < k + m
      · rw [List.append_assoc, List.getElem?_append_right (by simp; omega), List.getElem?_append_left (by simp; omega), List.getElem?_replicate, if_pos (by simp; omega)]
        unfold onesTo
        rw [if_pos c2]
      · rw [List.getElem?_append_right (by simp; omega), List.getElem?_drop, List.getElem?_map, List.getElem?_range (by simp; omega)]
        show some (Value.int .i64 (onesTo k _)) = _
        unfold onesTo
        rw [if_neg (by simp; omega), if_neg c2]
  · rw [List.getElem?_eq_none (by simp; omega), List.getElem?_eq_none (by simp; omega)]
set_option maxRecDepth 100000 in
set_option maxHeartbeats 8000000 in
theorem repeat_any (lb c n : Nat) (hn : 1 ≤ n ∧ n ≤ 9) (w : World) (hlb : lb < w.heap.size) (h1 : w.cell? ⟨lb, 0, none⟩ = some (.int .i64 1)) :
    Calls Try.prog 130 #[.slice (some ⟨lb, 0, none⟩) 1 c, .int .i64 n] w fun e w' => (∃ g, e = .returned (.slice (some ⟨g, 0, none⟩) n n) ∧ NumsW w' g n (fun _ => 1)) ∧ Below w.heap.size w w' := by
  have mk1 : ∀ W : World, (Instr.makeSlice 37 (.int .i64 (n : Int)) (.int .i64 (n : Int))).run Try.prog W = .ok (.slice (some ⟨W.heap.size, 0, none⟩) n n) (W.alloc (.cells (madeCells #[.int .i64 0] n) 3)) :=
    print_make 37 3 .i64 8 Try.underlying37 (by kernel_rfl) (by omega) n (by omega)
  have HM : Aside0 (∀ W : World, Calls Try.prog 188 #[.int .u64 1, .int .u64 n] W fun e w' => e = .returned (.tuple #[.int .u64 0, .int .u64 n]) ∧ w' = W) := ⟨fun W => by
    have := Try.bits_Mul 1 n (by omega) (by omega) W
    rw [show 1 * n / 18446744073709551616 = 0 by omega, show 1 * n % 18446744073709551616 = n by omega] at this
    exact this⟩
  have n0 : (0 : Int) ≤ (n : Int) := by omega
  have n1 : ¬ (n : Int) < 0 := by omega
  obtain ⟨W1, hW1⟩ : ∃ W1, W1 = w.alloc (.cells (madeCells #[.int .i64 0] n) 3) := ⟨_, rfl⟩
  obtain ⟨g, hg⟩ : ∃ g, w.heap.size = g := ⟨_, rfl⟩
  have hN1 : NumsW W1 g n (onesTo 0) := by
    unfold NumsW
    rw [hW1, ← hg, heap_alloc_new, made_rep]
    congr 3
    have : (fun x => Value.int .i64 (onesTo 0 x)) = fun _ => Value.int .i64 0 := by funext x; unfold onesTo; rw [if_neg (by omega)]
    rw [this, List.map_const', List.length_range]
  have HB1 : Aside0 (Below g w W1) := ⟨by rw [hW1, ← hg]; exact (Below.refl _ _).alloc (Nat.le_refl _) _⟩
  have hl1 : W1.cell? ⟨lb, 0, none⟩ = some (.int .i64 1) := (HB1.out.cell (p := ⟨lb, 0, none⟩) (by rw [← hg]; exact hlb)).trans h1
  have cp1 : (Builtin.copy_ #[37, 37] 3 #[.slice (some ⟨g, 0, none⟩) n n, .slice (some ⟨lb, 0, none⟩) 1 c]).run Try.prog W1 = .ok (.int .i64 1) (W1.setCells g 0 (List.replicate 1 (.int .i64 1))) :=
    run_copy_cells (P := Try.prog) W1 37 37 3 3 g 0 n n ⟨lb, 0, none⟩ 1 c [.int .i64 1] Try.underlying37 (by kernel_rfl) (by show 1 = min 1 n; omega) (fun j v hv => by
      have hj : j = 0 := by
        by_cases e : j = 0
        · exact e
        · rw [List.getElem?_eq_none (by simp; omega)] at hv; cases hv
      subst hj
      injection hv with hv
      subst hv
      exact hl1) (fun j hj => by
      have hj' : j < 1 := hj
      rw [Nat.zero_add, (hN1.at (b := j) (by omega)).1]; rfl) (fun j hj => by
      have hj' : j < 1 := hj
      rw [Nat.zero_add]; exact (hN1.at (b := j) (by omega)).2) (fun v hv => by
      obtain rfl := List.mem_singleton.1 hv
      rfl)
  have HN2 : Aside0 (NumsW (W1.setCells g 0 (List.replicate 1 (.int .i64 1))) g n (onesTo (0 + 1)) ∧ Below g w (W1.setCells g 0 (List.replicate 1 (.int .i64 1)))) := ⟨ones_set hN1 (by omega), Below.setCell (p := ⟨g, 0, none⟩) HB1.out (Nat.le_refl _) _⟩
  rw [hW1, ← hg] at cp1
  have HG := Aside0.mk hg
  have HW1 := Aside0.mk hW1
  clear hN1 hl1 hg hW1
  go_enter Try.func130, Try.ntmps130
  go_wp2_with fail
  refine (HM.out w).mono ?_
  rintro e w ⟨rfl, rfl⟩
  go_wp2_with fail
  clear cp1 mk1
  have HS0 := HN2.out
  rw [HW1.out, ← HG.out] at HS0
  have HS0 := Aside0.mk HS0
  go_loopg [8] n (fun gg s8 wr => ∃ k : Nat, s8 = .int .i64 k ∧ 1 ≤ k ∧ k ≤ n ∧ n - k ≤ gg ∧ Aside0 (NumsW wr w.heap.size n (onesTo k) ∧ Below w.heap.size w wr))
  case atStart => exact ⟨1, rfl, Nat.le_refl _, hn.1, by omega, HS0⟩
  case round =>
    obtain ⟨k, rfl, hk1, hk, hgg, HD⟩ := hrel
    by_cases hlt : (k : Int) < (n : Int)
    · have hkn : k < n := by omega
      have k0 : (0 : Int) ≤ (k : Int) := by omega
      obtain ⟨m, hm⟩ : ∃ m, min k (n - k) = m := ⟨_, rfl⟩
      have hm1 : 1 ≤ m ∧ k + m ≤ n := by omega
      have HCP : Aside0 (∀ W, NumsW W w.heap.size n (onesTo k) → (Builtin.copy_ #[37, 37] 3 #[.slice (some ⟨w.heap.size, k, none⟩) (n - k) (n - k), .slice (some ⟨w.heap.size, 0, none⟩) k n]).run Try.prog W = .ok (.int .i64 m) (W.setCells w.heap.size k (List.replicate m (.int .i64 1)))) := ⟨fun W hW => by
        have := run_copy_cells (P := Try.prog) W 37 37 3 3 w.heap.size k (n - k) (n - k) ⟨w.heap.size, 0, none⟩ k n (List.replicate m (.int .i64 1)) Try.underlying37 (by kernel_rfl) (by rw [List.length_replicate]; show m = min k (n - k); exact hm.symm) (fun j v hv => by
          have hj : j < m := by
            by_cases e : j < m
            · exact e
            · rw [List.getElem?_eq_none (by simp; omega)] at hv; cases hv
          rw [List.getElem?_replicate, if_pos hj] at hv
          injection hv with hv
          subst hv
          have q := (hW.at (b := j) (by omega)).1
          unfold onesTo at q
          rw [if_pos (by omega)] at q
          unfold Addr.add
          by_cases e : j = 0
          · subst e; rw [if_pos rfl]; exact q
          · rw [if_neg e]
            show W.cell? ⟨w.heap.size, 0 + j, none⟩ = _
            rw [Nat.zero_add]; exact q) (fun j hj => by
          have hj' : j < m := by simpa using hj
          rw [(hW.at (b := k + j) (by omega)).1]; rfl) (fun j hj => by
          have hj' : j < m := by simpa using hj
          exact (hW.at (b := k + j) (by omega)).2) (fun v hv => by
          have := List.eq_of_mem_replicate hv
          subst this; rfl)
        rw [List.length_replicate] at this
        exact this⟩
      have HM2 := Aside0.mk hm
      clear hm
      go_wp2_with fail
      have cp2 := HCP.out (wr.drewN 1) HD.out.1
      have cp3 := HCP.out wr.drew HD.out.1
      have e1 : IntKind.i64.wrap ((k : Int) + (m : Int)) = (k : Int) + (m : Int) := by rw [IntKind.wrap_i64]; omega
      go_region_held3 (fun _ => True) (trivial) ((fail))
      clear e1
      go_wp2_with fail
      go_roundg (n - (k + m))
      case measure => omega
      case rel => exact ⟨k + m, by go_num, by omega, hm1.2, Nat.le_refl _, ⟨ones_set (W := wr.drewN 1) HD.out.1 hm1.2, below_setCells _ k (pw_below_drewN HD.out.2 1)⟩⟩
    · obtain rfl : k = n := by omega
      go_wp2_with fail
      go_ret
      refine ⟨⟨w.heap.size, rfl, ?_⟩, HD.out.2⟩
      have h := HD.out.1
      unfold NumsW at h ⊢
      rw [h]
      congr 3
      apply List.map_congr_left
      intro x hx
      unfold onesTo
      rw [if_pos (List.mem_range.1 hx)]
end Go.Proofs.Ytdhnjecbdclmaaa
end
