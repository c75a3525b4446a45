/- Texts of this claim's, joined by a program: FShelf2, FTwo, FNear, FQueue, FWallMany, FNumsW, FRepeatV, FSteps, FNearW, FNearX. -/
import Derived.Test.YtbpppchkgjcahaaKFShelfM
import Derived.Shelf.Strings.Builder1
import Derived.Shelf.Small.Wraps
import Derived.Shelf.Strings.BuilderF
import Derived.Shelf.Strings.BuilderK
import Derived.Shelf.Strings.Search1
import Derived.Shelf.Strings.Search2
import Derived.Shelf.Strings.Search3
import Derived.Shelf.Strings.Count
import Derived.Shelf.LaysM
import Derived.Shelf.Strings.Shaped
import Derived.Shelf.Sort.Plain
import Derived.Shelf.Bits.Mul64
import Derived.Shelf.Strings.BuilderCap
import Derived.Shelf.Slices.Turned
import Derived.Shelf.Slices.Equal
import Derived.Ground.Names2Prog
import Derived.Shelf.Slices.CompactI
import Derived.Shelf.Slices.SearchI
import Derived.Shelf.Slices.Empties2
import Derived.Test.YtbpppchkgjcahaaProg
import Derived.Test.YtbpppchkgjcahaaKFFloorRM
import Derived.Sort.OwnSortedInts
import Derived.Test.YtbpppchkgjcahaaKFTouch
import Derived.ArgAppend
import Derived.Test.YtbpppchkgjcahaaKFWalls
import Derived.Laws.IdiomCopy
import Derived.Deep.RegionHeld3
section
namespace Go.Proofs
open Go.Shelf
end Go.Proofs
end
section
namespace Go.Proofs.Ytbpppchkgjcahaa
open Go.RowKit Go.Shelf Go.Proofs.YtbpppchkgjcahaaW.PrintWords Go.Proofs.YtbpppchkgjcahaaW.PrintMore
set_option linter.unusedVariables false
set_option linter.unusedSimpArgs false
structure Two (W : World) (base : Nat) (v u : Value) (xs ys : List Int) : Prop where
  one : W.ownsRow base 3 1 v xs.length (nums .i64 xs)
  two : W.ownsRow base 3 1 u ys.length (nums .i64 ys)
  apart : ∀ j, v.ownBlock = some j → u.ownBlock ≠ some j
theorem Two.nil (W : World) (base : Nat) : Two W base (.slice none 0 0) (.slice none 0 0) [] [] := ⟨World.ownsRow_nil _ _ _ _, World.ownsRow_nil _ _ _ _, fun j h => by cases h⟩
theorem Two.swap {W : World} {base : Nat} {v u : Value} {xs ys : List Int} (h : Two W base v u xs ys) : Two W base u v ys xs := ⟨h.two, h.one, fun j h1 h2 => h.apart j h2 h1⟩
theorem Two.below {W W' : World} {base : Nat} {v u : Value} {xs ys : List Int} (h : Two W base v u xs ys) (hb : Below W.heap.size W W') : Two W' base v u xs ys := ⟨pw_own_below h.one hb, pw_own_below h.two hb, h.apart⟩
theorem Two.grow {W w1 : World} {base : Nat} {v u v1 : Value} {xs ys zs : List Int} (h : Two W base v u xs ys) (ho : w1.ownsRow base 3 1 v1 zs.length (nums .i64 zs)) (hg : W.grownBy w1 v.ownBlock) (hat : v1.ownBlock = v.ownBlock ∨ ∃ b, v1.ownBlock = some b ∧ W.heap.size ≤ b) : Two w1 base v1 u zs ys := by
  refine ⟨ho, own_move h.two fun k hk => hg.block k (h.two.lt k hk).2 fun e => h.apart k e.symm hk, fun j hj hu => ?_⟩
  rcases hat with hat | ⟨b, hb, hs⟩
  · exact h.apart j (hat ▸ hj) hu
  · rw [hb] at hj
    injection hj with hj
    have := (h.two.lt j hu).2
    omega
def OwnI (W : World) (base : Nat) (A : Option Addr) (xs : List Int) : Prop := ∃ g, A = some ⟨g, 0, none⟩ ∧ base ≤ g ∧ g < W.heap.size ∧ ∀ k (hk : k < xs.length), W.cell? ⟨g, k, none⟩ = some (.int .i64 xs[k])
theorem OwnI.move {W W' : World} {base : Nat} {A : Option Addr} {xs : List Int} (h : OwnI W base A xs) (hs : W.heap.size ≤ W'.heap.size) (hm : ∀ g, base ≤ g → g < W.heap.size → W'.heap[g]? = W.heap[g]?) : OwnI W' base A xs := by
  obtain ⟨g, rfl, h1, h2, h3⟩ := h
  exact ⟨g, rfl, h1, by omega, fun k hk => by rw [World.cell?_of_block (w := W) (hm g h1 h2)]; exact h3 k hk⟩
end Go.Proofs.Ytbpppchkgjcahaa
end
section
namespace Go.Proofs.Ytbpppchkgjcahaa
open Go.RowKit Go.Shelf Go.Proofs.YtbpppchkgjcahaaW.PrintWords Go.Proofs.YtbpppchkgjcahaaW.PrintMore
set_option linter.unusedVariables false
set_option linter.unusedSimpArgs false
def nearTo (nb : Nat → Nat → Bool) (a k : Nat) : List Int := (nearL nb k a).map fun x : Nat => (x : Int)
theorem nearTo_succ (nb : Nat → Nat → Bool) (a k : Nat) : nearTo nb a (k + 1) = if nb a k then nearTo nb a k ++ [(k : Int)] else nearTo nb a k := by
  unfold nearTo nearL
  rw [List.range_succ, List.filter_append]
  cases h : nb a k
  · rw [List.filter_cons_of_neg (by simp [h])]; simp
  · rw [List.filter_cons_of_pos (by simp [h])]; simp
theorem nearTo_len (nb : Nat → Nat → Bool) (a k : Nat) : (nearTo nb a k).length ≤ k := by
  unfold nearTo nearL
  rw [List.length_map]
  exact Nat.le_trans (List.length_filter_le _ _) (by rw [List.length_range]; exact Nat.le_refl _)
def RowI (w w' : World) (e : Ending) (xs : List Int) : Prop := (∃ A c, e = .returned (.slice A xs.length c) ∧ w'.ownsRow w.heap.size 3 1 (.slice A xs.length c) xs.length (nums .i64 xs)) ∧ Below w.heap.size w w'
theorem own_len {W : World} {base : Nat} {v : Value} {xs : List Int} (h : W.ownsRow base 3 1 v xs.length (nums .i64 xs)) : ∃ A c, v = .slice A xs.length c := by
  rcases h.2 with ⟨e, e0⟩ | ⟨g, c, cur, e, _⟩
  · exact ⟨none, 0, by rw [e, e0]⟩
  · exact ⟨_, _, e⟩
set_option maxRecDepth 100000 in
set_option maxHeartbeats 8000000 in
theorem near_any (g n : Nat) (rb : Nat → Nat) (T : Nat → Nat → Int) (nb : Nat → Nat → Bool) (hn : n ≤ 9) (hT : ∀ a b, decide (0 < T a b) = nb a b) (a : Nat) (ha : a < n) (w : World) (hI : IntsW w g n rb T) :
    Calls Try.prog 78 #[.slice (some ⟨g, 0, none⟩) n n, .int .i64 (a : Int)] w fun e w' => RowI w w' e (nearTo nb a n) := by
  have HI := Aside0.mk hI
  have HT := Aside0.mk hT
  have c0 := hI.cell ha
  have a0 : (0 : Int) ≤ (a : Int) := by omega
  have an : (a : Int) < (n : Int) := by omega
  clear hI hT
  go_enter Try.func78, Try.ntmps78
  go_wp2
  go_loopw [5, 13] (fun v i wr => ∃ (k : Nat), i = .int .i64 k ∧ k ≤ n ∧ Aside0 (wr.ownsRow w.heap.size 3 1 v (nearTo nb a k).length (nums .i64 (nearTo nb a k)) ∧ Below w.heap.size w wr)) (fun _ i _ => n - (intOf i).toNat)
  case atStart => exact ⟨0, rfl, Nat.zero_le _, ⟨World.ownsRow_nil _ _ _ _, Below.refl _ _⟩⟩
  case round =>
    obtain ⟨k, rfl, hk, HD⟩ := hrel
    obtain ⟨wo, rfl⟩ : ∃ wo : World, wo = wr := ⟨_, rfl⟩
    by_cases hlt : (k : Int) < (n : Int)
    · obtain ⟨c1, _⟩ := (HI.out.below HD.out.2).at ha (show k < n by omega)
      have k0 : (0 : Int) ≤ (k : Int) := by omega
      have HS := Aside0.mk (nearTo_succ nb a k)
      have hd := HT.out a k
      cases hb : nb a k with
      | true =>
        rw [hb] at hd
        have h1 : (0 : Int) < T a k := by simpa using hd
        have HS2 : Aside0 (nearTo nb a (k + 1) = nearTo nb a k ++ [(k : Int)]) := ⟨by rw [HS.out, hb, if_pos rfl]⟩
        clear hb hd
        go_wp2_with (at_builtin; refine print_append_num (w0 := w) w.heap.size rfl (.tmp 20) (.tmp 22) 34 3 .i64 8 rfl Try.underlying34 (by kernel_rfl) (by omega) _ (nearTo nb a k) (k : Int) rfl rfl ?k1 HD.out.2 HD.out.2.size ?k2 ?_; (case k1 => exact HD.out.1); (case k2 => have := nearTo_len nb a k; omega); intro v1 w1 ho hB hg hat; have HT1 := Aside0.mk ho; have HB1 := Aside0.mk hB; clear ho hB hg hat)
        go_roundw
        case rel => exact ⟨k + 1, by go_num, by omega, ⟨by rw [HS2.out]; exact HT1.out, HB1.out⟩⟩
        case measure => simp [intOf]; omega
      | false =>
        rw [hb] at hd
        have h1 : ¬ (0 : Int) < T a k := by simpa using hd
        have HS2 : Aside0 (nearTo nb a (k + 1) = nearTo nb a k) := ⟨by rw [HS.out, hb, if_neg (by simp)]⟩
        clear hb hd
        go_wp2_with fail
        go_roundw
        case rel => exact ⟨k + 1, by go_num, by omega, ⟨by rw [HS2.out]; exact HD.out.1, HD.out.2⟩⟩
        case measure => simp [intOf]; omega
    · have hkn : k = n := by omega
      obtain ⟨h1, h2⟩ := HD.out
      obtain ⟨A, c, rfl⟩ := own_len h1
      have HR : Aside0 (RowI w wo (.returned (.slice A (nearTo nb a k).length c)) (nearTo nb a n)) := ⟨by rw [← hkn]; exact ⟨⟨A, c, rfl, h1⟩, h2⟩⟩
      clear h1 h2 hkn HD
      go_wp2_with fail
      go_ret
      exact HR.out
end Go.Proofs.Ytbpppchkgjcahaa
end
section
namespace Go.Proofs.Ytbpppchkgjcahaa
open Go.RowKit Go.Shelf Go.Proofs.YtbpppchkgjcahaaW.PrintWords Go.Proofs.YtbpppchkgjcahaaW.PrintMore
set_option linter.unusedVariables false
set_option linter.unusedSimpArgs false
structure QAt (W : World) (base : Nat) (av : Nat → Prop) (g off cap : Nat) (q : List Nat) : Prop where
  base_ : base ≤ g
  free : ¬ av g
  fits : q.length ≤ cap
  blk : ∃ cs : Array Value, W.heap[g]? = some (.cells cs 3 (0, 0)) ∧ off + cap ≤ cs.size ∧ ∀ j (hj : j < q.length), cs[off + j]? = some (.int .i64 ((q[j] : Nat) : Int))
theorem QAt.lt {W : World} {base : Nat} {av : Nat → Prop} {g off cap : Nat} {q : List Nat} (h : QAt W base av g off cap q) : g < W.heap.size := by
  obtain ⟨cs, hc, _⟩ := h.blk
  exact (Array.getElem?_eq_some_iff.1 hc).1
theorem QAt.keep {W W' : World} {base : Nat} {av : Nat → Prop} {g off cap : Nat} {q : List Nat} (h : QAt W base av g off cap q) (hk : W'.heap[g]? = W.heap[g]?) : QAt W' base av g off cap q :=
  ⟨h.base_, h.free, h.fits, by obtain ⟨cs, h1, h2⟩ := h.blk; exact ⟨cs, by rw [hk]; exact h1, h2⟩⟩
theorem QAt.below {W W' : World} {base : Nat} {av : Nat → Prop} {g off cap : Nat} {q : List Nat} (h : QAt W base av g off cap q) (hb : Below W.heap.size W W') : QAt W' base av g off cap q := h.keep (hb.block _ h.lt)
theorem QAt.cell {W : World} {base : Nat} {av : Nat → Prop} {g off cap : Nat} {q : List Nat} (h : QAt W base av g off cap q) {j : Nat} (hj : j < q.length) : W.cell? ⟨g, off + j, none⟩ = some (.int .i64 ((q[j] : Nat) : Int)) := by
  obtain ⟨cs, h1, h2, h3⟩ := h.blk
  rw [Lib.cell_of_heap h1]; exact h3 j hj
theorem QAt.head {W : World} {base : Nat} {av : Nat → Prop} {g off cap : Nat} {x : Nat} {q : List Nat} (h : QAt W base av g off cap (x :: q)) : W.cell? ⟨g, off, none⟩ = some (.int .i64 (x : Int)) := h.cell (j := 0) (by simp)
theorem QAt.tail {W : World} {base : Nat} {av : Nat → Prop} {g off cap : Nat} {x : Nat} {q : List Nat} (h : QAt W base av g off (cap + 1) (x :: q)) : QAt W base av g (off + 1) cap q := by
  obtain ⟨cs, h1, h2, h3⟩ := h.blk
  have hf := h.fits
  rw [List.length_cons] at hf
  exact ⟨h.base_, h.free, by omega, cs, h1, by omega, fun j hj => by
    have := h3 (j + 1) (by rw [List.length_cons]; omega)
    rw [List.getElem_cons_succ] at this
    rw [← this]
    congr 1
    omega⟩
theorem QAt.one {W : World} {base : Nat} {av : Nat → Prop} (x : Nat) (hb : base ≤ W.heap.size) (hf : ¬ av W.heap.size) : QAt (W.alloc (.cells #[.int .i64 (x : Int)] 3)) base av W.heap.size 0 1 [x] :=
  ⟨hb, hf, by simp, _, heap_alloc_new W _, by simp, fun j hj => by
    obtain rfl : j = 0 := by simpa using hj
    rfl⟩
end Go.Proofs.Ytbpppchkgjcahaa
end
section
namespace Go.Proofs.Ytbpppchkgjcahaa
open Go.RowKit Go.Shelf Go.Proofs.YtbpppchkgjcahaaW.PrintWords Go.Proofs.YtbpppchkgjcahaaW.PrintMore
set_option linter.unusedVariables false
set_option linter.unusedSimpArgs false
theorem two_set {W : World} {b : Nat} {t : TypeId} {x y : Value} (h : W.heap[b]? = some (.cells #[x, y] t (0, 0))) (z : Value) : (W.setCell ⟨b, 0, none⟩ z).heap[b]? = some (.cells #[z, y] t (0, 0)) ∧ (W.setCell ⟨b, 1, none⟩ z).heap[b]? = some (.cells #[x, z] t (0, 0)) := by
  constructor
  · show (W.setCells b 0 [z]).heap[b]? = _
    obtain ⟨cur', p1, p2, p3⟩ := setCells_row [z] 0 W #[x, y] h (by show 0 + 1 ≤ 2; omega)
    rw [p1, show cur' = #[z, y] from Array.toList_inj.1 p3]
  · show (W.setCells b 1 [z]).heap[b]? = _
    obtain ⟨cur', p1, p2, p3⟩ := setCells_row [z] 1 W #[x, y] h (by show 1 + 1 ≤ 2; omega)
    rw [p1, show cur' = #[x, z] from Array.toList_inj.1 p3]
def wallVal (x : WallT) : Value := .agg #[.bool x.1, .int .i64 x.2.1, .int .i64 x.2.2.1, .int .i64 x.2.2.2]
theorem end_any (fb h wd : Nat) (cl : Nat → Nat → Int) (boxes : List Box) (hh : 1 ≤ h) (w : World) (hf : FloorR w fb h wd cl boxes) (x : WallT) :
    Calls Try.prog 91 #[.pointer (some ⟨fb, 0, none⟩), wallVal x] w fun e w' => e = .returned (.int .i64 ((if x.1 then wd else h : Nat) : Int)) ∧ Below w.heap.size w w' := by
  have HHI : Aside0 (∀ W, Below w.heap.size w W → Calls Try.prog 124 #[.pointer (some ⟨fb, 0, none⟩)] W fun e w' => e = .returned (.int .i64 h) ∧ w' = W) := ⟨fun W hW => by
    obtain ⟨g, rb, RA, rc, h1, h2, h3, h4, h5, h6⟩ := hf
    exact high_any _ _ h h W ((hW.cell (p := ⟨fb, 0, none⟩) h1).trans h3)⟩
  have HWI : Aside0 (∀ W, Below w.heap.size w W → Calls Try.prog 125 #[.pointer (some ⟨fb, 0, none⟩)] W fun e w' => e = .returned (.int .i64 wd) ∧ w' = W) := ⟨fun W hW => by
    obtain ⟨g, rb, RA, rc, h1, h2, h3, h4, h5, h6⟩ := hf
    obtain ⟨b1, b2, b3⟩ := h5 0 (by omega)
    exact wide_any _ g h h hh _ wd wd W ((hW.cell (p := ⟨fb, 0, none⟩) h1).trans h3) ((hW.cell (p := ⟨g, 0, none⟩) h2).trans b2)⟩
  clear hf
  obtain ⟨b, y1, y2, y3⟩ := x
  unfold wallVal
  dsimp only
  have HB : Aside0 (∀ o, Below w.heap.size w (w.alloc o)) := ⟨fun o => (Below.refl _ _).alloc (Nat.le_refl _) _⟩
  cases b with
  | true =>
    simp only [if_true]
    go_enter Try.func91, Try.ntmps91
    go_wp2_with fail
    refine (HWI.out _ (HB.out _)).mono ?_
    rintro e w2 ⟨rfl, rfl⟩
    go_wp2_with fail
    go_ret
    exact ⟨rfl, HB.out _⟩
  | false =>
    simp only [Bool.false_eq_true, if_false]
    go_enter Try.func91, Try.ntmps91
    go_wp2_with fail
    refine (HHI.out _ (HB.out _)).mono ?_
    rintro e w2 ⟨rfl, rfl⟩
    go_wp2_with fail
    go_ret
    exact ⟨rfl, HB.out _⟩
def cntW (b : Bool) (L : List WallT) (k : Nat) : Nat := ((L.take k).filter fun x => x.1 == b).length
theorem cntW_le (b : Bool) (L : List WallT) (k : Nat) : cntW b L k ≤ k := Nat.le_trans (List.length_filter_le _ _) (List.length_take_le _ _)
theorem cntW_succ (b : Bool) (L : List WallT) {k : Nat} (hk : k < L.length) : cntW b L (k + 1) = cntW b L k + if L[k].1 = b then 1 else 0 := by
  unfold cntW
  rw [List.take_succ_eq_append_getElem hk, List.filter_append, List.length_append]
  congr 1
  by_cases h : L[k].1 = b
  · rw [if_pos h]; simp [h]
  · rw [if_neg h]; simp [h]
theorem cntW_all (b : Bool) (L : List WallT) : cntW b L L.length = (L.filter fun x => x.1 == b).length := by unfold cntW; rw [List.take_length]
def manyP (p : List ByteArray) : (Int × Int) × Bool := if planG p then ((((upN (clP p) p.length (wdP p) : Nat) : Int), ((lvN (clP p) p.length (wdP p) : Nat) : Int)), true) else ((0, 0), false)
set_option maxRecDepth 100000 in
set_option maxHeartbeats 16000000 in
theorem wallMany_any (A : Option Addr) (cap : Nat) (p : List ByteArray) (hp : SmallP p) (w : World) (hr0 : Kd.C Kd.string w A p.length p) (hc0 : p.length ≤ cap) :
    Calls Try.prog 38 #[.slice A p.length cap] w fun e w' => e = .returned (.tuple #[.int .i64 (manyP p).1.1, .int .i64 (manyP p).1.2, .bool (manyP p).2]) ∧ Below w.heap.size w w' := by
  have HFL := floorOf_any A cap p hp.1 hp.2 w hr0 hc0
  clear hr0
  go_enter Try.func38, Try.ntmps38
  go_wp2_with fail
  refine HFL.mono ?_
  rintro e w1 ⟨hb1, ⟨hpl, fb, base, rfl, hbase, hfl⟩ | ⟨hpl, o, rfl⟩⟩
  · have HB1 := Aside0.mk hb1
    have hfr := hfl.reads
    have HWL : Aside0 (∀ W, Below w1.heap.size w1 W → Calls Try.prog 90 #[.pointer (some ⟨fb, 0, none⟩)] W fun e w' => (∃ A c, e = .returned (.slice A (wallsL (clP p) p.length (wdP p)).length c) ∧ WallsW w' W.heap.size (.slice A (wallsL (clP p) p.length (wdP p)).length c) (wallsL (clP p) p.length (wdP p))) ∧ Below W.heap.size W w') := ⟨fun W hW => walls_any fb p.length (wdP p) (clP p) (boxesP p) (planFlat hpl).high (planFlat hpl).wide W (hfr.below hW)⟩
    have hval : manyP p = ((((cntW false (wallsL (clP p) p.length (wdP p)) (wallsL (clP p) p.length (wdP p)).length : Nat) : Int), ((cntW true (wallsL (clP p) p.length (wdP p)) (wallsL (clP p) p.length (wdP p)).length : Nat) : Int)), true) := by
      unfold manyP
      rw [if_pos hpl, cntW_all, cntW_all, walls_up, walls_lv]
    have HV := Aside0.mk hval
    have hln := wallsL_len (clP p) (planFlat hpl).high.2 (planFlat hpl).wide.2
    obtain ⟨L, hL⟩ : ∃ L, wallsL (clP p) p.length (wdP p) = L := ⟨_, rfl⟩
    rw [hL] at HWL HV hln
    clear hb1 hpl hfl hfr hval hL
    go_wp2_with fail
    refine (HWL.out _ ((Below.refl _ _).alloc (Nat.le_refl _) _)).mono ?_
    rintro e w2 ⟨⟨A2, c2, rfl, hW2⟩, hb2⟩
    obtain ⟨n, hn⟩ : ∃ n, L.length = n := ⟨_, rfl⟩
    have hq0 := (hb2.block w1.heap.size (by simp)).trans (heap_alloc_new w1 _)
    have HB2 := Aside0.mk (((Below.refl _ w1).alloc (Nat.le_refl _) _).trans (hb2.mono (by simp)))
    have HS2 : Aside0 (w1.heap.size < w2.heap.size) := ⟨(Array.getElem?_eq_some_iff.1 hq0).1⟩
    have HW2 := Aside0.mk hW2
    have HN := Aside0.mk hn
    have HQ0 := Aside0.mk hq0
    clear hb2 hW2 hq0
    obtain ⟨ty, hty⟩ : ∃ t, w2.heap[w1.heap.size]? = some (.cells #[.int .i64 0, .int .i64 0] t (0, 0)) := ⟨_, HQ0.out⟩
    have HW3 : Aside0 (WallsW w2 (w1.heap.size + 1) (.slice A2 n c2) L) := ⟨by rw [← hn]; exact HW2.out.mono (by simp)⟩
    have HTY := Aside0.mk hty
    rw [hn] at hln ⊢
    clear hn hty HQ0 HW2
    go_wp2
    go_loopw [21] (fun i wr => ∃ k : Nat, i = .int .i64 k ∧ k ≤ n ∧ Aside0 (wr.heap[w1.heap.size]? = some (.cells #[.int .i64 ((cntW false L k : Nat) : Int), .int .i64 ((cntW true L k : Nat) : Int)] ty (0, 0)) ∧ WallsW wr (w1.heap.size + 1) (.slice A2 n c2) L ∧ Below w1.heap.size w1 wr)) (fun i _ => n - (intOf i).toNat)
    case atStart => exact ⟨0, rfl, Nat.zero_le _, ⟨HTY.out, HW3.out, HB2.out⟩⟩
    case round =>
      obtain ⟨k, rfl, hk, HD⟩ := hrel
      by_cases hlt : (k : Int) < (n : Int)
      · obtain ⟨g, c9, hA, hc9, hg1, hg2, ⟨cs9, hcs9⟩, hcell⟩ := HD.out.2.1.form (by rw [HN.out]; omega)
        injection hA with hA hA2 hA3
        subst hA hA3
        have hkl : k < L.length := by rw [HN.out]; omega
        obtain ⟨f0, f1, f2, f3⟩ := hcell k hkl
        have s1 := cntW_succ false L hkl
        have s2 := cntW_succ true L hkl
        have l1 := cntW_le false L k
        have l2 := cntW_le true L k
        obtain ⟨⟨lv, y1, y2, y3⟩, hx⟩ : ∃ x, L[k] = x := ⟨_, rfl⟩
        rw [hx] at f0 f1 f2 f3 s1 s2
        dsimp only at f0 f1 f2 f3 s1 s2
        obtain ⟨u, hu⟩ : ∃ u, cntW false L k = u := ⟨_, rfl⟩
        obtain ⟨v, hv⟩ : ∃ u, cntW true L k = u := ⟨_, rfl⟩
        have hblk := HD.out.1
        rw [hu] at s1 l1 hblk
        rw [hv] at s2 l2 hblk
        have HBK := Aside0.mk hblk
        have n9 : (n : Int) ≤ (c2 : Int) := by rw [HN.out] at hc9; omega
        have HG2 := Aside0.mk hg2
        have HG1 := Aside0.mk hg1
        have HA2 := Aside0.mk hA2
        clear hcs9 hcell hx hu hv hblk hg2 hg1 hA2 hc9 hkl
        cases lv with
        | true =>
          rw [if_neg (by simp)] at s1
          rw [if_pos rfl] at s2
          have S1 := Aside0.mk s1
          have S2 := Aside0.mk s2
          have q0 := blk_cell HBK.out 0
          have q1 := blk_cell HBK.out 1
          have z0 := blk_frozen HBK.out 0
          have z1 := blk_frozen HBK.out 1
          simp at q0 q1
          have hlt0 : w1.heap.size < wr.heap.size := (Array.getElem?_eq_some_iff.1 HBK.out).1
          have ub : u ≤ 100 := by omega
          have vb : v ≤ 100 := by omega
          clear s1 s2
          go_wp2
          go_roundw
          case rel =>
            refine ⟨k + 1, by go_num, by omega, ⟨?_, ?_, ?_⟩⟩
            · rw [S1.out, S2.out]
              exact (Below.heap_alloc _ _ _ (by simp; exact hlt0)).trans (two_set HBK.out _).2
            · refine HD.out.2.1.move fun j hj => ?_
              obtain rfl : g = j := by simpa [Value.ownBlock] using hj
              exact (Below.heap_alloc _ _ _ (by simp; exact HG2.out)).trans (Below.heap_setCell _ _ _ _ (by have := HG1.out; show g ≠ w1.heap.size; omega))
            · exact (HD.out.2.2.setCell (p := ⟨w1.heap.size, 1, none⟩) (Nat.le_refl _) _).alloc (by simp; omega) _
          case measure => simp [intOf]; omega
        | false =>
          rw [if_pos rfl] at s1
          rw [if_neg (by simp)] at s2
          have S1 := Aside0.mk s1
          have S2 := Aside0.mk s2
          have q0 := blk_cell HBK.out 0
          have q1 := blk_cell HBK.out 1
          have z0 := blk_frozen HBK.out 0
          have z1 := blk_frozen HBK.out 1
          simp at q0 q1
          have hlt0 : w1.heap.size < wr.heap.size := (Array.getElem?_eq_some_iff.1 HBK.out).1
          have ub : u ≤ 100 := by omega
          have vb : v ≤ 100 := by omega
          clear s1 s2
          go_wp2
          go_roundw
          case rel =>
            refine ⟨k + 1, by go_num, by omega, ⟨?_, ?_, ?_⟩⟩
            · rw [S1.out, S2.out]
              exact (Below.heap_alloc _ _ _ (by simp; exact hlt0)).trans (two_set HBK.out _).1
            · refine HD.out.2.1.move fun j hj => ?_
              obtain rfl : g = j := by simpa [Value.ownBlock] using hj
              exact (Below.heap_alloc _ _ _ (by simp; exact HG2.out)).trans (Below.heap_setCell _ _ _ _ (by have := HG1.out; show g ≠ w1.heap.size; omega))
            · exact (HD.out.2.2.setCell (p := ⟨w1.heap.size, 0, none⟩) (Nat.le_refl _) _).alloc (by simp; omega) _
          case measure => simp [intOf]; omega
      · have hkn : k = n := by omega
        have hblk := HD.out.1
        rw [hkn, ← HN.out] at hblk
        have q0 := blk_cell hblk 0
        have q1 := blk_cell hblk 1
        simp at q0 q1
        obtain ⟨u, hu⟩ : ∃ u, cntW false L L.length = u := ⟨_, rfl⟩
        obtain ⟨v, hv⟩ : ∃ u, cntW true L L.length = u := ⟨_, rfl⟩
        rw [hu] at q0
        rw [hv] at q1
        have HV2 := HV.out
        rw [hu, hv] at HV2
        have HV3 := Aside0.mk HV2
        clear hkn hblk hu hv HV2
        go_wp2
        go_quiet (fail)
        go_wp2
        go_ret3
        exact ⟨by rw [HV3.out]; rfl, HB1.out.trans ((pw_below_drewN HD.out.2.2 _).mono HB1.out.size)⟩
  · have HB1 := Aside0.mk hb1
    have hval : manyP p = ((0, 0), false) := by unfold manyP; rw [hpl]; rfl
    have HV := Aside0.mk hval
    clear hb1 hpl hval
    go_wp2_with fail
    go_ret3
    exact ⟨by rw [HV.out]; rfl, HB1.out⟩
end Go.Proofs.Ytbpppchkgjcahaa
end
section
namespace Go.Proofs.Ytbpppchkgjcahaa
open Go.RowKit Go.Shelf Go.Proofs.YtbpppchkgjcahaaW.PrintWords Go.Proofs.YtbpppchkgjcahaaW.PrintMore
set_option linter.unusedVariables false
set_option linter.unusedSimpArgs false
def NumsW (W : World) (g n : Nat) (o : Nat → Int) : Prop := W.heap[g]? = some (.cells ((List.range n).map fun x => Value.int .i64 (o x)).toArray 3 (0, 0))
def setN (o : Nat → Int) (b : Nat) (v : Int) : Nat → Int := fun x => if x = b then v else o x
theorem NumsW.at {W : World} {g n : Nat} {o : Nat → Int} (h : NumsW W g n o) {b : Nat} (hb : b < n) : W.cell? ⟨g, b, none⟩ = some (.int .i64 (o b)) ∧ W.frozen? ⟨g, b, none⟩ = false := by
  refine ⟨?_, Lib.frozen_of_heap h b⟩
  rw [Lib.cell_of_heap h]
  simp [List.getElem?_range hb]
theorem NumsW.set {W : World} {g n : Nat} {o : Nat → Int} (h : NumsW W g n o) {b : Nat} (hb : b < n) (v : Int) : NumsW (W.setCell ⟨g, b, none⟩ (.int .i64 v)) g n (setN o b v) := by
  have h' : W.heap[g]? = _ := h
  have h1 : (W.setCell ⟨g, b, none⟩ (.int .i64 v)).heap[g]? = some (.cells (((List.range n).map fun x => Value.int .i64 (o x)).toArray.setIfInBounds b (.int .i64 v)) 3 (0, 0)) := by
    simp only [World.setCell, Array.getElem?_modify, if_pos rfl, h']
    rfl
  unfold NumsW
  rw [h1]
  congr 2
  apply Array.ext_getElem?
  intro j
  simp only [Array.getElem?_setIfInBounds, List.getElem?_toArray, List.getElem?_map, List.size_toArray, List.length_map, List.length_range]
  by_cases e : b = j
  · subst e
    rw [if_pos rfl, if_pos hb, List.getElem?_range hb]
    simp [setN]
  · rw [if_neg e]
    by_cases hj : j < n
    · rw [List.getElem?_range hj]
      simp [setN, show ¬ j = b from fun x => e x.symm]
    · rw [List.getElem?_eq_none (by simp; omega)]; rfl
end Go.Proofs.Ytbpppchkgjcahaa
end
section
namespace Go.Proofs.Ytbpppchkgjcahaa
open Go.RowKit Go.Shelf Go.Proofs.YtbpppchkgjcahaaW.PrintWords Go.Proofs.YtbpppchkgjcahaaW.PrintMore
set_option linter.unusedVariables false
set_option linter.unusedSimpArgs false
end Go.Proofs.Ytbpppchkgjcahaa
end
section
namespace Go.Proofs.Ytbpppchkgjcahaa
open Go.RowKit Go.Shelf Go.Proofs.YtbpppchkgjcahaaW.PrintWords Go.Proofs.YtbpppchkgjcahaaW.PrintMore
set_option linter.unusedVariables false
set_option linter.unusedSimpArgs false
def RowC (W : World) (A : Option Addr) (xs : List Int) : Prop := ∀ k (hk : k < xs.length), ∃ gr, A = some ⟨gr, 0, none⟩ ∧ W.cell? ⟨gr, k, none⟩ = some (.int .i64 xs[k])
theorem RowC.keep {W W' : World} {A : Option Addr} {xs : List Int} (h : RowC W A xs) (hk : ∀ j, A = some ⟨j, 0, none⟩ → W'.heap[j]? = W.heap[j]?) : RowC W' A xs := fun k hkl => by
  obtain ⟨gr, e, hc⟩ := h k hkl
  exact ⟨gr, e, by rw [World.cell?_of_block (w := W) (hk gr e)]; exact hc⟩
theorem NumsW.keep {W W' : World} {g n : Nat} {o : Nat → Int} (h : NumsW W g n o) (hk : W'.heap[g]? = W.heap[g]?) : NumsW W' g n o := by
  unfold NumsW at h ⊢
  rw [hk]; exact h
theorem NumsW.lt {W : World} {g n : Nat} {o : Nat → Int} (h : NumsW W g n o) : g < W.heap.size := (Array.getElem?_eq_some_iff.1 h).1
end Go.Proofs.Ytbpppchkgjcahaa
end
section
namespace Go.Proofs.Ytbpppchkgjcahaa
open Go.RowKit Go.Shelf Go.Proofs.YtbpppchkgjcahaaW.PrintWords Go.Proofs.YtbpppchkgjcahaaW.PrintMore
set_option linter.unusedVariables false
set_option linter.unusedSimpArgs false
noncomputable def nbP (p : List ByteArray) : Nat → Nat → Bool := nbB (clP p) p.length (wdP p)
def roomN (p : List ByteArray) : Nat := (boxesP p).length
def inR (p : List ByteArray) (a : Int) : Bool := decide (0 ≤ a) && decide (a < (roomN p : Int))
theorem inR_iff {p : List ByteArray} {a : Int} : inR p a = true ↔ ∃ m : Nat, a = (m : Int) ∧ m < roomN p := by
  unfold inR
  rw [Bool.and_eq_true, decide_eq_true_iff, decide_eq_true_iff]
  constructor
  · rintro ⟨h1, h2⟩; exact ⟨a.toNat, by omega, by omega⟩
  · rintro ⟨m, rfl, h⟩; omega
theorem touchP_any (p : List ByteArray) (hpl : planG p = true) (fb : Nat) (w : World) (hf : FloorR w fb p.length (wdP p) (clP p) (boxesP p)) :
    Calls Try.prog 81 #[.pointer (some ⟨fb, 0, none⟩)] w fun e w' => TouchW w w' (roomN p) (nbP p) e :=
  touching_any fb p.length (wdP p) (clP p) (boxesP p) (planFlat hpl).high (planFlat hpl).wide ⟨by
    obtain ⟨q, hq, _⟩ := (planFlat hpl).num 0 0 (by have := (planFlat hpl).high; omega) (by have := (planFlat hpl).wide; omega)
    omega, (planFlat hpl).few⟩ (fun i j hi hj => (planFlat hpl).num i j hi hj) w hf
theorem roomN_pos {p : List ByteArray} (hpl : planG p = true) : 1 ≤ roomN p ∧ roomN p ≤ 9 := ⟨by
  obtain ⟨q, hq, _⟩ := (planFlat hpl).num 0 0 (by have := (planFlat hpl).high; omega) (by have := (planFlat hpl).wide; omega)
  unfold roomN; omega, (planFlat hpl).few⟩
set_option maxHeartbeats 4000000 in
theorem hasRoom_any (p : List ByteArray) (fb : Nat) (w : World) (hf : FloorR w fb p.length (wdP p) (clP p) (boxesP p)) (a : Int) :
    Calls Try.prog 128 #[.pointer (some ⟨fb, 0, none⟩), .int .i64 a] w fun e w' => e = .returned (.bool (inR p a)) ∧ Below w.heap.size w w' := by
  obtain ⟨g0, rb0, RA, rc, h1, h2, h3, h4, h5, h6⟩ := hf
  obtain ⟨n, hn⟩ : ∃ n, roomN p = n := ⟨_, rfl⟩
  have hn' : (boxesP p).length = n := hn
  rw [hn'] at h4
  have HE : Aside0 (inR p a = (decide (0 ≤ a) && decide (a < (n : Int)))) := ⟨by unfold inR; rw [hn]⟩
  clear h1 h2 h3 h5 h6 hn hn'
  by_cases c1 : 0 ≤ a
  · have HE2 : Aside0 (inR p a = decide (a < (n : Int))) := ⟨by rw [HE.out, decide_eq_true c1, Bool.true_and]⟩
    have c1' : a ≥ 0 := c1
    by_cases c2 : a < (n : Int)
    · have HE3 : Aside0 (inR p a = true) := ⟨by rw [HE2.out, decide_eq_true c2]⟩
      go_enter Try.func128, Try.ntmps128
      go_wp2
      go_ret
      exact ⟨by rw [HE3.out]; rfl, Below.refl _ _⟩
    · have HE3 : Aside0 (inR p a = false) := ⟨by rw [HE2.out, decide_eq_false c2]⟩
      go_enter Try.func128, Try.ntmps128
      go_wp2
      go_ret
      exact ⟨by rw [HE3.out]; rfl, Below.refl _ _⟩
  · have HE3 : Aside0 (inR p a = false) := ⟨by rw [HE.out, decide_eq_false c1, Bool.false_and]⟩
    have c1' : ¬ a ≥ 0 := c1
    go_enter Try.func128, Try.ntmps128
    go_wp2
    go_ret
    exact ⟨by rw [HE3.out]; rfl, Below.refl _ _⟩
def PairE (w w' : World) (p : List ByteArray) (a b : Int) (e : Ending) : Prop := Below w.heap.size w w' ∧
  ((planG p = true ∧ inR p a = true ∧ inR p b = true ∧ ∃ fb g rb T, e = .returned (.tuple #[.pointer (some ⟨fb, 0, none⟩), .slice (some ⟨g, 0, none⟩) (roomN p) (roomN p), .bool true]) ∧ IntsW w' g (roomN p) rb T ∧ (∀ a b, decide (0 < T a b) = nbP p a b)) ∨
   ((planG p && inR p a && inR p b) = false ∧ e = .returned (.tuple #[.pointer none, .slice none 0 0, .bool false])))
set_option maxHeartbeats 8000000 in
theorem pair_any (A : Option Addr) (cap : Nat) (p : List ByteArray) (hp : SmallP p) (a b : Int) (w : World) (hr0 : Kd.C Kd.string w A p.length p) (hc0 : p.length ≤ cap) :
    Calls Try.prog 74 #[.slice A p.length cap, .int .i64 a, .int .i64 b] w fun e w' => PairE w w' p a b e := by
  have HFL := floorOf_any A cap p hp.1 hp.2 w hr0 hc0
  clear hr0
  go_enter Try.func74, Try.ntmps74
  go_wp2_with fail
  refine HFL.mono ?_
  rintro e w1 ⟨hb1, ⟨hpl, fb, base, rfl, hbase, hfl⟩ | ⟨hpl, o, rfl⟩⟩
  · have HB1 := Aside0.mk hb1
    have hfr := hfl.reads
    have HHA := Aside0.mk (fun W (hW : Below w1.heap.size w1 W) x => hasRoom_any p fb W (hfr.below hW) x)
    have HTO := Aside0.mk (fun W (hW : Below w1.heap.size w1 W) => touchP_any p hpl fb W (hfr.below hW))
    have HPL := Aside0.mk hpl
    clear hb1 hpl hfl hfr
    go_wp2_with fail
    refine (HHA.out _ (Below.refl _ _) a).mono ?_
    rintro e w2 ⟨rfl, hb2⟩
    have HB2 := Aside0.mk hb2
    clear hb2
    cases ha : inR p a with
    | false =>
      have HP : Aside0 (PairE w w2 p a b (.returned (.tuple #[.pointer none, .slice none 0 0, .bool false]))) := ⟨⟨HB1.out.trans (HB2.out.mono HB1.out.size), .inr ⟨by rw [ha]; simp, rfl⟩⟩⟩
      clear ha
      go_wp2_with fail
      first | go_ret3 | go_ret2 | go_ret
      exact HP.out
    | true =>
      have HA := Aside0.mk ha
      clear ha
      go_wp2_with fail
      refine (HHA.out _ HB2.out b).mono ?_
      rintro e w3 ⟨rfl, hb3⟩
      have HB3 := Aside0.mk (HB2.out.trans (hb3.mono HB2.out.size))
      clear hb3
      cases hb : inR p b with
      | false =>
        have HP : Aside0 (PairE w w3 p a b (.returned (.tuple #[.pointer none, .slice none 0 0, .bool false]))) := ⟨⟨HB1.out.trans (HB3.out.mono HB1.out.size), .inr ⟨by rw [hb]; simp, rfl⟩⟩⟩
        clear hb
        go_wp2_with fail
        first | go_ret3 | go_ret2 | go_ret
        exact HP.out
      | true =>
        have HBB := Aside0.mk hb
        clear hb
        go_wp2_with fail
        refine (HTO.out _ HB3.out).mono ?_
        rintro e w4 ⟨g, rb, T, rfl, hI, hT, hb4⟩
        have HP : Aside0 (PairE w w4 p a b (.returned (.tuple #[.pointer (some ⟨fb, 0, none⟩), .slice (some ⟨g, 0, none⟩) (roomN p) (roomN p), .bool true]))) := ⟨⟨HB1.out.trans ((HB3.out.trans (hb4.mono HB3.out.size)).mono HB1.out.size), .inl ⟨HPL.out, HA.out, HBB.out, fb, g, rb, T, rfl, hI, hT⟩⟩⟩
        clear hI hT hb4
        go_wp2_with fail
        first | go_ret3 | go_ret2 | go_ret
        exact HP.out
  · have HP : Aside0 (PairE w w1 p a b (.returned (.tuple #[.pointer none, .slice none 0 0, .bool false]))) := ⟨⟨hb1, .inr ⟨by rw [hpl]; simp, rfl⟩⟩⟩
    clear hb1 hpl
    go_wp2_with fail
    first | go_ret3 | go_ret2 | go_ret
    exact HP.out
end Go.Proofs.Ytbpppchkgjcahaa
end
section
namespace Go.Proofs.Ytbpppchkgjcahaa
open Go.RowKit Go.Shelf Go.Proofs.YtbpppchkgjcahaaW.PrintWords Go.Proofs.YtbpppchkgjcahaaW.PrintMore
set_option linter.unusedVariables false
set_option linter.unusedSimpArgs false
noncomputable def ofP (p : List ByteArray) (a : Int) : List Int × Bool := if planG p && inR p a && inR p a then (nearTo (nbP p) a.toNat (roomN p), true) else ([], false)
def RowB (w w' : World) (e : Ending) (r : List Int × Bool) : Prop := (∃ A c, e = .returned (.tuple #[.slice A r.1.length c, .bool r.2]) ∧ w'.ownsRow w.heap.size 3 1 (.slice A r.1.length c) r.1.length (nums .i64 r.1)) ∧ Below w.heap.size w w'
set_option maxHeartbeats 8000000 in
theorem nearOf_any (A : Option Addr) (cap : Nat) (p : List ByteArray) (hp : SmallP p) (a : Int) (w : World) (hr0 : Kd.C Kd.string w A p.length p) (hc0 : p.length ≤ cap) :
    Calls Try.prog 23 #[.slice A p.length cap, .int .i64 a] w fun e w' => RowB w w' e (ofP p a) := by
  have HFL := pair_any A cap p hp a a w hr0 hc0
  clear hr0
  go_enter Try.func23, Try.ntmps23
  go_wp2_with fail
  refine HFL.mono ?_
  rintro e w1 ⟨hb1, ⟨hpl, ha, hb, fb, g, rb, T, rfl, hI, hT⟩ | ⟨hno, rfl⟩⟩
  · have HV : Aside0 (ofP p a = (nearTo (nbP p) a.toNat (roomN p), true)) := ⟨by unfold ofP; rw [hpl, ha]; rfl⟩
    obtain ⟨x, rfl, hx⟩ := inR_iff.1 ha
    rw [Int.toNat_natCast] at HV
    have hn := roomN_pos hpl
    have HST := Aside0.mk (near_any g (roomN p) rb T (nbP p) hn.2 hT x hx w1 hI)
    have HB1 := Aside0.mk hb1
    clear hpl ha hb hI hT hb1
    go_wp2_with fail
    refine HST.out.mono ?_
    rintro e w2 ⟨⟨A2, c2, rfl, ho⟩, hb2⟩
    have HP : Aside0 (RowB w w2 (.returned (.tuple #[.slice A2 (nearTo (nbP p) x (roomN p)).length c2, .bool true])) (ofP p (x : Int))) := ⟨by rw [HV.out]; exact ⟨⟨A2, c2, rfl, own_weaken ho HB1.out.size⟩, HB1.out.trans (hb2.mono HB1.out.size)⟩⟩
    clear ho hb2
    go_wp2_with fail
    go_ret2
    exact HP.out
  · have HP : Aside0 (RowB w w1 (.returned (.tuple #[.slice none 0 0, .bool false])) (ofP p a)) := ⟨by
      have hv : ofP p a = ([], false) := by unfold ofP; rw [hno]; rfl
      rw [hv]
      exact ⟨⟨none, 0, rfl, World.ownsRow_nil _ _ _ _⟩, hb1⟩⟩
    clear hb1 hno
    go_wp2_with fail
    go_ret2
    exact HP.out
def sumNear (nb : Nat → Nat → Bool) (n k : Nat) : Nat := ((List.range k).map fun a => (nearTo nb a n).length).sum
theorem sumNear_succ (nb : Nat → Nat → Bool) (n k : Nat) : sumNear nb n (k + 1) = sumNear nb n k + (nearTo nb k n).length := by
  unfold sumNear
  rw [List.range_succ, List.map_append, List.sum_append]; simp
theorem sumNear_le (nb : Nat → Nat → Bool) (n k : Nat) : sumNear nb n k ≤ n * k := by
  induction k with
  | zero => exact Nat.zero_le _
  | succ k ih =>
    rw [sumNear_succ, Nat.mul_succ]
    have := nearTo_len nb k n
    omega
noncomputable def manyNP (p : List ByteArray) : Int × Bool := if planG p then (((sumNear (nbP p) (roomN p) (roomN p) / 2 : Nat) : Int), true) else (0, false)
set_option maxHeartbeats 8000000 in
theorem nearMany_any (A : Option Addr) (cap : Nat) (p : List ByteArray) (hp : SmallP p) (w : World) (hr0 : Kd.C Kd.string w A p.length p) (hc0 : p.length ≤ cap) :
    Calls Try.prog 36 #[.slice A p.length cap] w fun e w' => e = .returned (.tuple #[.int .i64 (manyNP p).1, .bool (manyNP p).2]) ∧ Below w.heap.size w w' := by
  have HFL := floorOf_any A cap p hp.1 hp.2 w hr0 hc0
  clear hr0
  go_enter Try.func36, Try.ntmps36
  go_wp2_with fail
  refine HFL.mono ?_
  rintro e w1 ⟨hb1, ⟨hpl, fb, base, rfl, hbase, hfl⟩ | ⟨hpl, o, rfl⟩⟩
  · have HB1 := Aside0.mk hb1
    have hfr := hfl.reads
    have HTO := Aside0.mk (touchP_any p hpl fb w1 hfr)
    have HV : Aside0 (manyNP p = (((sumNear (nbP p) (roomN p) (roomN p) / 2 : Nat) : Int), true)) := ⟨by unfold manyNP; rw [if_pos hpl]⟩
    have hn := roomN_pos hpl
    obtain ⟨n, hnn⟩ : ∃ n, roomN p = n := ⟨_, rfl⟩
    rw [hnn] at hn HTO HV
    clear hb1 hpl hfl hfr hnn
    go_wp2_with fail
    refine HTO.out.mono ?_
    rintro e w2 ⟨g, rb, T, rfl, hI, hT, hb2⟩
    have HB2 := Aside0.mk (HB1.out.trans (hb2.mono HB1.out.size))
    have HI := Aside0.mk hI
    have HT := Aside0.mk hT
    clear hI hT hb2
    go_wp2
    go_loopw [6, 20] (fun s i wr => ∃ k sm : Nat, i = .int .i64 k ∧ k ≤ n ∧ s = .int .i64 sm ∧ sm ≤ 100 ∧ Aside0 (sm = sumNear (nbP p) n k ∧ Below w2.heap.size w2 wr)) (fun _ i _ => n - (intOf i).toNat)
    case atStart => exact ⟨0, 0, rfl, Nat.zero_le _, rfl, by omega, ⟨rfl, Below.refl _ _⟩⟩
    case round =>
      obtain ⟨k, sm, rfl, hk, rfl, hsm, HD⟩ := hrel
      obtain ⟨wo, rfl⟩ : ∃ wo : World, wo = wr := ⟨_, rfl⟩
      by_cases hlt : (k : Int) < (n : Int)
      · have HNE := Aside0.mk (near_any g n rb T (nbP p) hn.2 HT.out k (by omega) wo (HI.out.below HD.out.2))
        have HS := Aside0.mk (sumNear_succ (nbP p) n k)
        have hle := sumNear_le (nbP p) n (k + 1)
        have hmul : n * (k + 1) ≤ 9 * 9 := Nat.mul_le_mul hn.2 (by omega)
        have hln := nearTo_len (nbP p) k n
        obtain ⟨l, hl⟩ : ∃ l, (nearTo (nbP p) k n).length = l := ⟨_, rfl⟩
        have HLE := Aside0.mk hl
        have hs2 : sm + l ≤ 100 := by rw [HS.out, ← HD.out.1, hl] at hle; omega
        rw [hl] at hln HS
        clear hle hmul
        go_wp2_with fail
        refine HNE.out.mono ?_
        rintro e w3 ⟨⟨A3, c3, rfl, ho⟩, hb3⟩
        have HB3 := Aside0.mk (HD.out.2.trans (hb3.mono HD.out.2.size))
        clear ho hb3
        rw [hl]
        clear hl
        go_wp2_with fail
        go_roundw
        case rel => exact ⟨k + 1, sm + l, by go_num, by omega, by go_num, hs2, ⟨by rw [HS.out, HD.out.1], HB3.out⟩⟩
        case measure => simp [intOf]; omega
      · have hkn : k = n := by omega
        have HR : Aside0 (sm = sumNear (nbP p) n n) := ⟨by have h := HD.out.1; rw [hkn] at h; exact h⟩
        have HBE := Aside0.mk (HB2.out.trans (HD.out.2.mono HB2.out.size))
        clear hkn HD
        go_wp2_with fail
        go_ret2
        refine ⟨?_, HBE.out⟩
        rw [HV.out, ← HR.out]
        show Ending.returned (.tuple #[.int .i64 _, .bool true]) = .returned (.tuple #[.int .i64 ((sm / 2 : Nat) : Int), .bool true])
        congr 4
  · have HB1 := Aside0.mk hb1
    have HV : Aside0 (manyNP p = (0, false)) := ⟨by unfold manyNP; simp [hpl]⟩
    clear hb1 hpl
    go_wp2_with fail
    go_ret2
    exact ⟨by rw [HV.out]; rfl, HB1.out⟩
end Go.Proofs.Ytbpppchkgjcahaa
end
