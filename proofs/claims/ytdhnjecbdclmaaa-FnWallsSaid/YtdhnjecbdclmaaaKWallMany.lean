/- The program's end, WallMany, WallEnds: walls counted. -/
import Derived.Test.YtdhnjecbdclmaaaKWalls
import Derived.Test.YtdhnjecbdclmaaaKFloorRM
namespace Go.Proofs.Ytdhnjecbdclmaaa
open Go.RowKit Go.Shelf Go.Proofs.YtdhnjecbdclmaaaW.PrintWords Go.Proofs.YtdhnjecbdclmaaaW.PrintMore
set_option linter.unusedVariables false
set_option linter.unusedSimpArgs false

theorem two_set {W : World} {b : Nat} {t : TypeId} {x y : Value} (h : W.heap[b]? = some (.cells #[x, y] t (0, 0))) (z : Value) : (W.setCell ⟨b, 0, none⟩ z).heap[b]? = some (.cells #[z, y] t (0, 0)) ∧ (W.setCell ⟨b, 1, none⟩ z).heap[b]? = some (.cells #[x, z] t (0, 0)) := by
  constructor
  · show (W.setCells b 0 [z]).heap[b]? = _
    obtain ⟨cur', p1, p2, p3⟩ := setCells_row [z] 0 W #[x, y] h (by show 0 + 1 ≤ 2; omega)
    rw [p1, show cur' = #[z, y] from Array.toList_inj.1 p3]
  · show (W.setCells b 1 [z]).heap[b]? = _
    obtain ⟨cur', p1, p2, p3⟩ := setCells_row [z] 1 W #[x, y] h (by show 1 + 1 ≤ 2; omega)
    rw [p1, show cur' = #[x, z] from Array.toList_inj.1 p3]
/-- A wall as a value. -/
def wallVal (x : WallT) : Value := .agg #[.bool x.1, .int .i64 x.2.1, .int .i64 x.2.2.1, .int .i64 x.2.2.2]
theorem end_any (fb h wd : Nat) (cl : Nat → Nat → Int) (boxes : List Box) (hh : 1 ≤ h) (w : World) (hf : FloorR w fb h wd cl boxes) (x : WallT) :
    Calls Try.prog 142 #[.pointer (some ⟨fb, 0, none⟩), wallVal x] w fun e w' => e = .returned (.int .i64 ((if x.1 then wd else h : Nat) : Int)) ∧ Below w.heap.size w w' := by
  have HHI : Aside0 (∀ W, Below w.heap.size w W → Calls Try.prog 120 #[.pointer (some ⟨fb, 0, none⟩)] W fun e w' => e = .returned (.int .i64 h) ∧ w' = W) := ⟨fun W hW => by
    obtain ⟨g, rb, RA, rc, h1, h2, h3, h4, h5, h6⟩ := hf
    exact high_any _ _ h h W ((hW.cell (p := ⟨fb, 0, none⟩) h1).trans h3)⟩
  have HWI : Aside0 (∀ W, Below w.heap.size w W → Calls Try.prog 113 #[.pointer (some ⟨fb, 0, none⟩)] W fun e w' => e = .returned (.int .i64 wd) ∧ w' = W) := ⟨fun W hW => by
    obtain ⟨g, rb, RA, rc, h1, h2, h3, h4, h5, h6⟩ := hf
    obtain ⟨b1, b2, b3⟩ := h5 0 (by omega)
    exact wide_any _ g h h hh _ wd wd W ((hW.cell (p := ⟨fb, 0, none⟩) h1).trans h3) ((hW.cell (p := ⟨g, 0, none⟩) h2).trans b2)⟩
  clear hf
  obtain ⟨b, y1, y2, y3⟩ := x
  unfold wallVal
  dsimp only
  have HB : Aside0 (∀ o, Below w.heap.size w (w.alloc o)) := ⟨fun o => (Below.refl _ _).alloc (Nat.le_refl _) _⟩
  cases b with
  | true =>
    simp only [if_true]
    go_enter Try.func142, Try.ntmps142
    go_wp2_with fail
    refine (HWI.out _ (HB.out _)).mono ?_
    rintro e w2 ⟨rfl, rfl⟩
    go_wp2_with fail
    go_ret
    exact ⟨rfl, HB.out _⟩
  | false =>
    simp only [Bool.false_eq_true, if_false]
    go_enter Try.func142, Try.ntmps142
    go_wp2_with fail
    refine (HHI.out _ (HB.out _)).mono ?_
    rintro e w2 ⟨rfl, rfl⟩
    go_wp2_with fail
    go_ret
    exact ⟨rfl, HB.out _⟩
/-- Walls of one kind among the first k. -/
def cntW (b : Bool) (L : List WallT) (k : Nat) : Nat := ((L.take k).filter fun x => x.1 == b).length
theorem cntW_le (b : Bool) (L : List WallT) (k : Nat) : cntW b L k ≤ k := Nat.le_trans (List.length_filter_le _ _) (List.length_take_le _ _)
theorem cntW_succ (b : Bool) (L : List WallT) {k : Nat} (hk : k < L.length) : cntW b L (k + 1) = cntW b L k + if L[k].1 = b then 1 else 0 := by
  unfold cntW
  rw [List.take_succ_eq_append_getElem hk, List.filter_append, List.length_append]
  congr 1
  by_cases h : L[k].1 = b
  · rw [if_pos h]; simp [h]
  · rw [if_neg h]; simp [h]
theorem cntW_all (b : Bool) (L : List WallT) : cntW b L L.length = (L.filter fun x => x.1 == b).length := by unfold cntW; rw [List.take_length]
/-- The numbers of a plan's walls. -/
def manyP (p : List ByteArray) : (Int × Int) × Bool := if planG p then ((((upN (clP p) p.length (wdP p) : Nat) : Int), ((lvN (clP p) p.length (wdP p) : Nat) : Int)), true) else ((0, 0), false)

set_option maxRecDepth 100000 in
set_option maxHeartbeats 16000000 in
theorem wallMany_any (A : Option Addr) (cap : Nat) (p : List ByteArray) (hp : SmallP p) (w : World) (hr0 : Kd.C Kd.string w A p.length p) (hc0 : p.length ≤ cap) :
    Calls Try.prog 72 #[.slice A p.length cap] w fun e w' => e = .returned (.tuple #[.int .i64 (manyP p).1.1, .int .i64 (manyP p).1.2, .bool (manyP p).2]) ∧ Below w.heap.size w w' := by
  have HFL := floorOf_any A cap p hp.1 hp.2 w hr0 hc0
  clear hr0
  go_enter Try.func72, Try.ntmps72
  go_wp2_with fail
  refine HFL.mono ?_
  rintro e w1 ⟨hb1, ⟨hpl, fb, base, rfl, hbase, hfl⟩ | ⟨hpl, o, rfl⟩⟩
  · have HB1 := Aside0.mk hb1
    have hfr := hfl.reads
    have HWL : Aside0 (∀ W, Below w1.heap.size w1 W → Calls Try.prog 141 #[.pointer (some ⟨fb, 0, none⟩)] W fun e w' => (∃ A c, e = .returned (.slice A (wallsL (clP p) p.length (wdP p)).length c) ∧ WallsW w' W.heap.size (.slice A (wallsL (clP p) p.length (wdP p)).length c) (wallsL (clP p) p.length (wdP p))) ∧ Below W.heap.size W w') := ⟨fun W hW => walls_any fb p.length (wdP p) (clP p) (boxesP p) (planFlat hpl).high (planFlat hpl).wide W (hfr.below hW)⟩
    have hval : manyP p = ((((cntW false (wallsL (clP p) p.length (wdP p)) (wallsL (clP p) p.length (wdP p)).length : Nat) : Int), ((cntW true (wallsL (clP p) p.length (wdP p)) (wallsL (clP p) p.length (wdP p)).length : Nat) : Int)), true) := by
      unfold manyP
      rw [if_pos hpl, cntW_all, cntW_all, walls_up, walls_lv]
    have HV := Aside0.mk hval
    have hln := wallsL_len (clP p) (planFlat hpl).high.2 (planFlat hpl).wide.2
    obtain ⟨L, hL⟩ : ∃ L, wallsL (clP p) p.length (wdP p) = L := ⟨_, rfl⟩
    rw [hL] at HWL HV hln
    clear hb1 hpl hfl hfr hval hL
    go_wp2_with fail
    refine (HWL.out _ ((Below.refl _ _).alloc (Nat.le_refl _) _)).mono ?_
    rintro e w2 ⟨⟨A2, c2, rfl, hW2⟩, hb2⟩
    obtain ⟨n, hn⟩ : ∃ n, L.length = n := ⟨_, rfl⟩
    have hq0 := (hb2.block w1.heap.size (by simp)).trans (heap_alloc_new w1 _)
    have HB2 := Aside0.mk (((Below.refl _ w1).alloc (Nat.le_refl _) _).trans (hb2.mono (by simp)))
    have HS2 : Aside0 (w1.heap.size < w2.heap.size) := ⟨(Array.getElem?_eq_some_iff.1 hq0).1⟩
    have HW2 := Aside0.mk hW2
    have HN := Aside0.mk hn
    have HQ0 := Aside0.mk hq0
    clear hb2 hW2 hq0
    obtain ⟨ty, hty⟩ : ∃ t, w2.heap[w1.heap.size]? = some (.cells #[.int .i64 0, .int .i64 0] t (0, 0)) := ⟨_, HQ0.out⟩
    have HW3 : Aside0 (WallsW w2 (w1.heap.size + 1) (.slice A2 n c2) L) := ⟨by rw [← hn]; exact HW2.out.mono (by simp)⟩
    have HTY := Aside0.mk hty
    rw [hn] at hln ⊢
    clear hn hty HQ0 HW2
    go_wp2
    go_loopw [21] (fun i wr => ∃ k : Nat, i = .int .i64 k ∧ k ≤ n ∧ Aside0 (wr.heap[w1.heap.size]? = some (.cells #[.int .i64 ((cntW false L k : Nat) : Int), .int .i64 ((cntW true L k : Nat) : Int)] ty (0, 0)) ∧ WallsW wr (w1.heap.size + 1) (.slice A2 n c2) L ∧ Below w1.heap.size w1 wr)) (fun i _ => n - (intOf i).toNat)
    case atStart => exact ⟨0, rfl, Nat.zero_le _, ⟨HTY.out, HW3.out, HB2.out⟩⟩
    case round =>
      obtain ⟨k, rfl, hk, HD⟩ := hrel
      by_cases hlt : (k : Int) < (n : Int)
      · obtain ⟨g, c9, hA, hc9, hg1, hg2, ⟨cs9, hcs9⟩, hcell⟩ := HD.out.2.1.form (by rw [HN.out]; omega)
        injection hA with hA hA2 hA3
        subst hA hA3
        have hkl : k < L.length := by rw [HN.out]; omega
        obtain ⟨f0, f1, f2, f3⟩ := hcell k hkl
        have s1 := cntW_succ false L hkl
        have s2 := cntW_succ true L hkl
        have l1 := cntW_le false L k
        have l2 := cntW_le true L k
        obtain ⟨⟨lv, y1, y2, y3⟩, hx⟩ : ∃ x, L[k] = x := ⟨_, rfl⟩
        rw [hx] at f0 f1 f2 f3 s1 s2
        dsimp only at f0 f1 f2 f3 s1 s2
        obtain ⟨u, hu⟩ : ∃ u, cntW false L k = u := ⟨_, rfl⟩
        obtain ⟨v, hv⟩ : ∃ u, cntW true L k = u := ⟨_, rfl⟩
        have hblk := HD.out.1
        rw [hu] at s1 l1 hblk
        rw [hv] at s2 l2 hblk
        have HBK := Aside0.mk hblk
        have n9 : (n : Int) ≤ (c2 : Int) := by rw [HN.out] at hc9; omega
        have HG2 := Aside0.mk hg2
        have HG1 := Aside0.mk hg1
        have HA2 := Aside0.mk hA2
        clear hcs9 hcell hx hu hv hblk hg2 hg1 hA2 hc9 hkl
        cases lv with
        | true =>
          rw [if_neg (by simp)] at s1
          rw [if_pos rfl] at s2
          have S1 := Aside0.mk s1
          have S2 := Aside0.mk s2
          have q0 := blk_cell HBK.out 0
          have q1 := blk_cell HBK.out 1
          have z0 := blk_frozen HBK.out 0
          have z1 := blk_frozen HBK.out 1
          simp at q0 q1
          have hlt0 : w1.heap.size < wr.heap.size := (Array.getElem?_eq_some_iff.1 HBK.out).1
          have ub : u ≤ 100 := by omega
          have vb : v ≤ 100 := by omega
          clear s1 s2
          go_wp2
          go_roundw
          case rel =>
            refine ⟨k + 1, by go_num, by omega, ⟨?_, ?_, ?_⟩⟩
            · rw [S1.out, S2.out]
              exact (Below.heap_alloc _ _ _ (by simp; exact hlt0)).trans (two_set HBK.out _).2
            · refine HD.out.2.1.move fun j hj => ?_
              obtain rfl : g = j := by simpa [Value.ownBlock] using hj
              exact (Below.heap_alloc _ _ _ (by simp; exact HG2.out)).trans (Below.heap_setCell _ _ _ _ (by have := HG1.out; show g ≠ w1.heap.size; omega))
            · exact (HD.out.2.2.setCell (p := ⟨w1.heap.size, 1, none⟩) (Nat.le_refl _) _).alloc (by simp; omega) _
          case measure => simp [intOf]; omega
        | false =>
          rw [if_pos rfl] at s1
          rw [if_neg (by simp)] at s2
          have S1 := Aside0.mk s1
          have S2 := Aside0.mk s2
          have q0 := blk_cell HBK.out 0
          have q1 := blk_cell HBK.out 1
          have z0 := blk_frozen HBK.out 0
          have z1 := blk_frozen HBK.out 1
          simp at q0 q1
          have hlt0 : w1.heap.size < wr.heap.size := (Array.getElem?_eq_some_iff.1 HBK.out).1
          have ub : u ≤ 100 := by omega
          have vb : v ≤ 100 := by omega
          clear s1 s2
          go_wp2
          go_roundw
          case rel =>
            refine ⟨k + 1, by go_num, by omega, ⟨?_, ?_, ?_⟩⟩
            · rw [S1.out, S2.out]
              exact (Below.heap_alloc _ _ _ (by simp; exact hlt0)).trans (two_set HBK.out _).1
            · refine HD.out.2.1.move fun j hj => ?_
              obtain rfl : g = j := by simpa [Value.ownBlock] using hj
              exact (Below.heap_alloc _ _ _ (by simp; exact HG2.out)).trans (Below.heap_setCell _ _ _ _ (by have := HG1.out; show g ≠ w1.heap.size; omega))
            · exact (HD.out.2.2.setCell (p := ⟨w1.heap.size, 0, none⟩) (Nat.le_refl _) _).alloc (by simp; omega) _
          case measure => simp [intOf]; omega
      · have hkn : k = n := by omega
        have hblk := HD.out.1
        rw [hkn, ← HN.out] at hblk
        have q0 := blk_cell hblk 0
        have q1 := blk_cell hblk 1
        simp at q0 q1
        obtain ⟨u, hu⟩ : ∃ u, cntW false L L.length = u := ⟨_, rfl⟩
        obtain ⟨v, hv⟩ : ∃ u, cntW true L L.length = u := ⟨_, rfl⟩
        rw [hu] at q0
        rw [hv] at q1
        have HV2 := HV.out
        rw [hu, hv] at HV2
        have HV3 := Aside0.mk HV2
        clear hkn hblk hu hv HV2
        go_wp2
        go_quiet (fail)
        go_wp2
        go_ret3
        exact ⟨by rw [HV3.out]; rfl, HB1.out.trans ((pw_below_drewN HD.out.2.2 _).mono HB1.out.size)⟩
  · have HB1 := Aside0.mk hb1
    have hval : manyP p = ((0, 0), false) := by unfold manyP; rw [hpl]; rfl
    have HV := Aside0.mk hval
    clear hb1 hpl hval
    go_wp2_with fail
    go_ret3
    exact ⟨by rw [HV.out]; rfl, HB1.out⟩
end Go.Proofs.Ytdhnjecbdclmaaa
