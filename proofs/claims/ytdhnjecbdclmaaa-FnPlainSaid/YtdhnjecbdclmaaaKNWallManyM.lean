/- Texts of this claim's, joined by a program: NWallMany, NPlanRooms, NContD, NTurn, NPlanTurn, NListOwn, NCutStuckS, NCutStuck, NStuckBy, NWaysP, NHered, NTile. -/
import Derived.Test.YtdhnjecbdclmaaaKNWalls
import Derived.Test.YtdhnjecbdclmaaaKNFloorRM
import Derived.Test.YtdhnjecbdclmaaaKNContains
import Derived.Deep.QuietTactic
import Derived.BigQuiet
section
namespace Go.Proofs.Ytdhnjecbdclmaaa
open Go.RowKit Go.Shelf Go.Proofs.YtdhnjecbdclmaaaW.PrintWords Go.Proofs.YtdhnjecbdclmaaaW.PrintMore
set_option linter.unusedVariables false
set_option linter.unusedSimpArgs false
theorem two_set {W : World} {b : Nat} {t : TypeId} {x y : Value} (h : W.heap[b]? = some (.cells #[x, y] t (0, 0))) (z : Value) : (W.setCell ⟨b, 0, none⟩ z).heap[b]? = some (.cells #[z, y] t (0, 0)) ∧ (W.setCell ⟨b, 1, none⟩ z).heap[b]? = some (.cells #[x, z] t (0, 0)) := by
  constructor
  · show (W.setCells b 0 [z]).heap[b]? = _
    obtain ⟨cur', p1, p2, p3⟩ := setCells_row [z] 0 W #[x, y] h (by show 0 + 1 ≤ 2; omega)
    rw [p1, show cur' = #[z, y] from Array.toList_inj.1 p3]
  · show (W.setCells b 1 [z]).heap[b]? = _
    obtain ⟨cur', p1, p2, p3⟩ := setCells_row [z] 1 W #[x, y] h (by show 1 + 1 ≤ 2; omega)
    rw [p1, show cur' = #[x, z] from Array.toList_inj.1 p3]
def cntW (b : Bool) (L : List WallT) (k : Nat) : Nat := ((L.take k).filter fun x => x.1 == b).length
theorem cntW_le (b : Bool) (L : List WallT) (k : Nat) : cntW b L k ≤ k := Nat.le_trans (List.length_filter_le _ _) (List.length_take_le _ _)
theorem cntW_succ (b : Bool) (L : List WallT) {k : Nat} (hk : k < L.length) : cntW b L (k + 1) = cntW b L k + if L[k].1 = b then 1 else 0 := by
  unfold cntW
  rw [List.take_succ_eq_append_getElem hk, List.filter_append, List.length_append]
  congr 1
  by_cases h : L[k].1 = b
  · rw [if_pos h]; simp [h]
  · rw [if_neg h]; simp [h]
theorem cntW_all (b : Bool) (L : List WallT) : cntW b L L.length = (L.filter fun x => x.1 == b).length := by unfold cntW; rw [List.take_length]
def manyP (p : List ByteArray) : (Int × Int) × Bool := if planG p then ((((upN (clP p) p.length (wdP p) : Nat) : Int), ((lvN (clP p) p.length (wdP p) : Nat) : Int)), true) else ((0, 0), false)
set_option maxRecDepth 100000 in
set_option maxHeartbeats 16000000 in
theorem wallMany_any (A : Option Addr) (cap : Nat) (p : List ByteArray) (hp : SmallP p) (w : World) (hr0 : Kd.C Kd.string w A p.length p) (hc0 : p.length ≤ cap) :
    Calls Try.prog 72 #[.slice A p.length cap] w fun e w' => e = .returned (.tuple #[.int .i64 (manyP p).1.1, .int .i64 (manyP p).1.2, .bool (manyP p).2]) ∧ Below w.heap.size w w' := by
  have HFL := floorOf_any A cap p hp.1 hp.2 w hr0 hc0
  clear hr0
  go_enter Try.func72, Try.ntmps72
  go_wp2_with fail
  refine HFL.mono ?_
  rintro e w1 ⟨hb1, ⟨hpl, fb, base, rfl, hbase, hfl⟩ | ⟨hpl, o, rfl⟩⟩
  · have HB1 := Aside0.mk hb1
    have hfr := hfl.reads
    have HWL : Aside0 (∀ W, Below w1.heap.size w1 W → Calls Try.prog 141 #[.pointer (some ⟨fb, 0, none⟩)] W fun e w' => (∃ A c, e = .returned (.slice A (wallsL (clP p) p.length (wdP p)).length c) ∧ WallsW w' W.heap.size (.slice A (wallsL (clP p) p.length (wdP p)).length c) (wallsL (clP p) p.length (wdP p))) ∧ Below W.heap.size W w') := ⟨fun W hW => walls_any fb p.length (wdP p) (clP p) (boxesP p) (planFlat hpl).high (planFlat hpl).wide W (hfr.below hW)⟩
    have hval : manyP p = ((((cntW false (wallsL (clP p) p.length (wdP p)) (wallsL (clP p) p.length (wdP p)).length : Nat) : Int), ((cntW true (wallsL (clP p) p.length (wdP p)) (wallsL (clP p) p.length (wdP p)).length : Nat) : Int)), true) := by
      unfold manyP
      rw [if_pos hpl, cntW_all, cntW_all, walls_up, walls_lv]
    have HV := Aside0.mk hval
    have hln := wallsL_len (clP p) (planFlat hpl).high.2 (planFlat hpl).wide.2
    obtain ⟨L, hL⟩ : ∃ L, wallsL (clP p) p.length (wdP p) = L := ⟨_, rfl⟩
    rw [hL] at HWL HV hln
    clear hb1 hpl hfl hfr hval hL
    go_wp2_with fail
    refine (HWL.out _ ((Below.refl _ _).alloc (Nat.le_refl _) _)).mono ?_
    rintro e w2 ⟨⟨A2, c2, rfl, hW2⟩, hb2⟩
    obtain ⟨n, hn⟩ : ∃ n, L.length = n := ⟨_, rfl⟩
    have hq0 := (hb2.block w1.heap.size (by simp)).trans (heap_alloc_new w1 _)
    have HB2 := Aside0.mk (((Below.refl _ w1).alloc (Nat.le_refl _) _).trans (hb2.mono (by simp)))
    have HS2 : Aside0 (w1.heap.size < w2.heap.size) := ⟨(Array.getElem?_eq_some_iff.1 hq0).1⟩
    have HW2 := Aside0.mk hW2
    have HN := Aside0.mk hn
    have HQ0 := Aside0.mk hq0
    clear hb2 hW2 hq0
    obtain ⟨ty, hty⟩ : ∃ t, w2.heap[w1.heap.size]? = some (.cells #[.int .i64 0, .int .i64 0] t (0, 0)) := ⟨_, HQ0.out⟩
    have HW3 : Aside0 (WallsW w2 (w1.heap.size + 1) (.slice A2 n c2) L) := ⟨by rw [← hn]; exact HW2.out.mono (by simp)⟩
    have HTY := Aside0.mk hty
    rw [hn] at hln ⊢
    clear hn hty HQ0 HW2
    go_wp2
    go_loopw [21] (fun i wr => ∃ k : Nat, i = .int .i64 k ∧ k ≤ n ∧ Aside0 (wr.heap[w1.heap.size]? = some (.cells #[.int .i64 ((cntW false L k : Nat) : Int), .int .i64 ((cntW true L k : Nat) : Int)] ty (0, 0)) ∧ WallsW wr (w1.heap.size + 1) (.slice A2 n c2) L ∧ Below w1.heap.size w1 wr)) (fun i _ => n - (intOf i).toNat)
    case atStart => exact ⟨0, rfl, Nat.zero_le _, ⟨HTY.out, HW3.out, HB2.out⟩⟩
    case round =>
      obtain ⟨k, rfl, hk, HD⟩ := hrel
      by_cases hlt : (k : Int) < (n : Int)
      · obtain ⟨g, c9, hA, hc9, hg1, hg2, ⟨cs9, hcs9⟩, hcell⟩ := HD.out.2.1.form (by rw [HN.out]; omega)
        injection hA with hA hA2 hA3
        subst hA hA3
        have hkl : k < L.length := by rw [HN.out]; omega
        obtain ⟨f0, f1, f2, f3⟩ := hcell k hkl
        have s1 := cntW_succ false L hkl
        have s2 := cntW_succ true L hkl
        have l1 := cntW_le false L k
        have l2 := cntW_le true L k
        obtain ⟨⟨lv, y1, y2, y3⟩, hx⟩ : ∃ x, L[k] = x := ⟨_, rfl⟩
        rw [hx] at f0 f1 f2 f3 s1 s2
        dsimp only at f0 f1 f2 f3 s1 s2
        obtain ⟨u, hu⟩ : ∃ u, cntW false L k = u := ⟨_, rfl⟩
        obtain ⟨v, hv⟩ : ∃ u, cntW true L k = u := ⟨_, rfl⟩
        have hblk := HD.out.1
        rw [hu] at s1 l1 hblk
        rw [hv] at s2 l2 hblk
        have HBK := Aside0.mk hblk
        have n9 : (n : Int) ≤ (c2 : Int) := by rw [HN.out] at hc9; omega
        have HG2 := Aside0.mk hg2
        have HG1 := Aside0.mk hg1
        have HA2 := Aside0.mk hA2
        clear hcs9 hcell hx hu hv hblk hg2 hg1 hA2 hc9 hkl
        cases lv with
        | true =>
          rw [if_neg (by simp)] at s1
          rw [if_pos rfl] at s2
          have S1 := Aside0.mk s1
          have S2 := Aside0.mk s2
          have q0 := blk_cell HBK.out 0
          have q1 := blk_cell HBK.out 1
          have z0 := blk_frozen HBK.out 0
          have z1 := blk_frozen HBK.out 1
          simp at q0 q1
          have hlt0 : w1.heap.size < wr.heap.size := (Array.getElem?_eq_some_iff.1 HBK.out).1
          have ub : u ≤ 100 := by omega
          have vb : v ≤ 100 := by omega
          clear s1 s2
          go_wp2
          go_roundw
          case rel =>
            refine ⟨k + 1, by go_num, by omega, ⟨?_, ?_, ?_⟩⟩
            · rw [S1.out, S2.out]
              exact (Below.heap_alloc _ _ _ (by simp; exact hlt0)).trans (two_set HBK.out _).2
            · refine HD.out.2.1.move fun j hj => ?_
              obtain rfl : g = j := by simpa [Value.ownBlock] using hj
              exact (Below.heap_alloc _ _ _ (by simp; exact HG2.out)).trans (Below.heap_setCell _ _ _ _ (by have := HG1.out; show g ≠ w1.heap.size; omega))
            · exact (HD.out.2.2.setCell (p := ⟨w1.heap.size, 1, none⟩) (Nat.le_refl _) _).alloc (by simp; omega) _
          case measure => simp [intOf]; omega
        | false =>
          rw [if_pos rfl] at s1
          rw [if_neg (by simp)] at s2
          have S1 := Aside0.mk s1
          have S2 := Aside0.mk s2
          have q0 := blk_cell HBK.out 0
          have q1 := blk_cell HBK.out 1
          have z0 := blk_frozen HBK.out 0
          have z1 := blk_frozen HBK.out 1
          simp at q0 q1
          have hlt0 : w1.heap.size < wr.heap.size := (Array.getElem?_eq_some_iff.1 HBK.out).1
          have ub : u ≤ 100 := by omega
          have vb : v ≤ 100 := by omega
          clear s1 s2
          go_wp2
          go_roundw
          case rel =>
            refine ⟨k + 1, by go_num, by omega, ⟨?_, ?_, ?_⟩⟩
            · rw [S1.out, S2.out]
              exact (Below.heap_alloc _ _ _ (by simp; exact hlt0)).trans (two_set HBK.out _).1
            · refine HD.out.2.1.move fun j hj => ?_
              obtain rfl : g = j := by simpa [Value.ownBlock] using hj
              exact (Below.heap_alloc _ _ _ (by simp; exact HG2.out)).trans (Below.heap_setCell _ _ _ _ (by have := HG1.out; show g ≠ w1.heap.size; omega))
            · exact (HD.out.2.2.setCell (p := ⟨w1.heap.size, 0, none⟩) (Nat.le_refl _) _).alloc (by simp; omega) _
          case measure => simp [intOf]; omega
      · have hkn : k = n := by omega
        have hblk := HD.out.1
        rw [hkn, ← HN.out] at hblk
        have q0 := blk_cell hblk 0
        have q1 := blk_cell hblk 1
        simp at q0 q1
        obtain ⟨u, hu⟩ : ∃ u, cntW false L L.length = u := ⟨_, rfl⟩
        obtain ⟨v, hv⟩ : ∃ u, cntW true L L.length = u := ⟨_, rfl⟩
        rw [hu] at q0
        rw [hv] at q1
        have HV2 := HV.out
        rw [hu, hv] at HV2
        have HV3 := Aside0.mk HV2
        clear hkn hblk hu hv HV2
        go_wp2
        go_quiet (fail)
        go_wp2
        go_ret3
        exact ⟨by rw [HV3.out]; rfl, HB1.out.trans ((pw_below_drewN HD.out.2.2 _).mono HB1.out.size)⟩
  · have HB1 := Aside0.mk hb1
    have hval : manyP p = ((0, 0), false) := by unfold manyP; rw [hpl]; rfl
    have HV := Aside0.mk hval
    clear hb1 hpl hval
    go_wp2_with fail
    go_ret3
    exact ⟨by rw [HV.out]; rfl, HB1.out⟩
end Go.Proofs.Ytdhnjecbdclmaaa
end
section
namespace Go.Proofs.Ytdhnjecbdclmaaa
open Go.RowKit Go.Shelf Go.Proofs.YtdhnjecbdclmaaaW.PrintWords Go.Proofs.YtdhnjecbdclmaaaW.PrintMore
set_option linter.unusedVariables false
set_option linter.unusedSimpArgs false
def roomsP (p : List ByteArray) : Int × Bool := if planG p then (((boxesP p).length : Int), true) else (0, false)
set_option maxHeartbeats 4000000 in
theorem planRooms_any (A : Option Addr) (cap : Nat) (p : List ByteArray) (hp : SmallP p) (w : World) (hr0 : Kd.C Kd.string w A p.length p) (hc0 : p.length ≤ cap) :
    Calls Try.prog 46 #[.slice A p.length cap] w fun e w' => e = .returned (.tuple #[.int .i64 (roomsP p).1, .bool (roomsP p).2]) ∧ Below w.heap.size w w' := by
  have HFL := floorOf_any A cap p hp.1 hp.2 w hr0 hc0
  clear hr0
  go_enter Try.func46, Try.ntmps46
  go_wp2_with fail
  refine HFL.mono ?_
  rintro e w1 ⟨hb1, ⟨hpl, fb, base, rfl, hbase, hfl⟩ | ⟨hpl, o, rfl⟩⟩
  · have HB1 := Aside0.mk hb1
    obtain ⟨g, rb, RA, rc, h1, h2, h3, h4, h5, h6⟩ := hfl.reads
    have HV : Aside0 (roomsP p = (((boxesP p).length : Int), true)) := ⟨by unfold roomsP; rw [if_pos hpl]⟩
    clear hb1 hpl hfl h5 h6
    go_wp2_with fail
    go_ret2
    exact ⟨by rw [HV.out]; rfl, HB1.out⟩
  · have HB1 := Aside0.mk hb1
    have HV : Aside0 (roomsP p = (0, false)) := ⟨by unfold roomsP; rw [hpl]; rfl⟩
    clear hb1 hpl
    go_wp2_with fail
    go_ret2
    exact ⟨by rw [HV.out]; rfl, HB1.out⟩
end Go.Proofs.Ytdhnjecbdclmaaa
end
section
namespace Go.Proofs.Ytdhnjecbdclmaaa
open Go.RowKit Go.Shelf Go.Proofs.YtdhnjecbdclmaaaW.PrintWords Go.Proofs.YtdhnjecbdclmaaaW.PrintMore
set_option linter.unusedVariables false
set_option maxRecDepth 100000 in
set_option maxHeartbeats 4000000 in
theorem index_dr (gb h ch : Nat) (hh : h ≤ 1000) (vals : Nat → Value) (p : Nat → Bool) (cl : Nat) (cap : Array Value) (w : World) (hcells : ∀ r, r < h → w.cell? ⟨gb, r, none⟩ = some (vals r)) (hent : ∀ args W, (callFunc cl args).run Try.prog W = .ok (.enter cl args) W)
    (hcall : ∀ r q, r < h → Calls Try.prog cl (#[vals r] ++ cap) (w.drewN q) fun e w' => e = .returned (.bool (p r)) ∧ ∃ q', w' = w.drewN q') :
    Calls Try.prog 184 #[.slice (some ⟨gb, 0, none⟩) h ch, .func (.func cl) #[] cap] w fun e w' => Tells h p e ∧ ∃ q, w' = w.drewN q := by
  have HC := Aside0.mk hcells
  have HF := Aside0.mk hcall
  clear hcells hcall
  go_enter Try.func184, Try.ntmps184
  go_wp2
  go_loopg [8] h (fun g s8 wr => ∃ r q : Nat, s8 = .int .i64 r ∧ r ≤ h ∧ h - r ≤ g ∧ wr = w.drewN q ∧ Aside0 (∀ k, k < r → p k = false))
  case atStart => exact ⟨0, 0, rfl, by omega, by omega, rfl, ⟨fun k hk => absurd hk (by omega)⟩⟩
  case round =>
    obtain ⟨r, q, rfl, hr, hg, rfl, HP⟩ := hrel
    by_cases hlt : (r : Int) < (h : Int)
    · have hc := HC.out r (by omega)
      have hr0 : (0 : Int) ≤ (r : Int) := by omega
      cases hp : p r with
      | true =>
        go_wp2_with (refine Calls.mono (HF.out r q (by omega)) ?_; rintro e w' ⟨rfl, q2, rfl⟩; rw [hp])
        go_ret
        exact ⟨⟨_, rfl, by rw [any_upto (by omega) hp]; exact decide_eq_true hr0⟩, _, rfl⟩
      | false =>
        go_wp2_with (refine Calls.mono (HF.out r q (by omega)) ?_; rintro e w' ⟨rfl, q2, rfl⟩; rw [hp])
        go_roundg (h - (r + 1))
        case measure => omega
        case rel => exact ⟨r + 1, q2, by go_num, by omega, Nat.le_refl _, rfl, ⟨fun k hk => if e : k = r then by rw [e]; exact hp else HP.out k (by omega)⟩⟩
    · have hrh : r = h := by omega
      subst hrh
      go_wp2
      go_ret
      refine ⟨⟨_, rfl, ?_⟩, _, rfl⟩
      have : (List.range r).any p = false := by
        rw [List.any_eq_false]
        intro k hk
        rw [HP.out k (List.mem_range.1 hk)]; simp
      rw [this]; rfl
theorem contains_dr (gb h ch : Nat) (hh : h ≤ 1000) (vals : Nat → Value) (p : Nat → Bool) (cl : Nat) (cap : Array Value) (w : World) (hcells : ∀ r, r < h → w.cell? ⟨gb, r, none⟩ = some (vals r)) (hent : ∀ args W, (callFunc cl args).run Try.prog W = .ok (.enter cl args) W)
    (hcall : ∀ r q, r < h → Calls Try.prog cl (#[vals r] ++ cap) (w.drewN q) fun e w' => e = .returned (.bool (p r)) ∧ ∃ q', w' = w.drewN q') :
    Calls Try.prog 115 #[.slice (some ⟨gb, 0, none⟩) h ch, .func (.func cl) #[] cap] w fun e w' => e = .returned (.bool ((List.range h).any p)) ∧ ∃ q, w' = w.drewN q := by
  have HI := index_dr gb h ch hh vals p cl cap w hcells hent hcall
  clear hcells hcall hent
  go_enter Try.func115, Try.ntmps115
  go_wp2_with fail
  refine HI.mono ?_
  rintro e w' ⟨⟨k, rfl, hk⟩, q, rfl⟩
  have HK := Aside0.mk hk
  clear hk
  go_wp2_with fail
  go_ret
  exact ⟨by rw [← HK.out]; rfl, _, rfl⟩
set_option maxRecDepth 100000 in
set_option maxHeartbeats 4000000 in
theorem differs0_any (A : Option Addr) (n cp : Nat) (cb : Nat) (w : World) (h4 : w.cell? ⟨cb, 0, none⟩ = some (.int .i64 0)) :
    Calls Try.prog 114 #[.slice A n cp, .pointer (some ⟨cb, 0, none⟩)] w fun e w' => e = .returned (.bool true) ∧ ∃ q, w' = w.drewN q := by
  go_enter Try.func114, Try.ntmps114
  go_wp2_with fail
  go_quiet (fail)
  go_wp2_with fail
  go_ret
  exact ⟨rfl, _, rfl⟩
set_option maxRecDepth 100000 in
set_option maxHeartbeats 4000000 in
theorem differs1_any (rb n cp : Nat) (cb c : Nat) (x y : Int) (hc1 : 1 ≤ c) (hc : c < n) (hn : n ≤ 6) (w : World) (h4 : w.cell? ⟨cb, 0, none⟩ = some (.int .i64 c)) (hx : w.cell? ⟨rb, c, none⟩ = some (.int .i64 x)) (hy : w.cell? ⟨rb, c - 1, none⟩ = some (.int .i64 y)) :
    Calls Try.prog 114 #[.slice (some ⟨rb, 0, none⟩) n cp, .pointer (some ⟨cb, 0, none⟩)] w fun e w' => e = .returned (.bool (x != y)) ∧ ∃ q, w' = w.drewN q := by
  have n1 : ((c : Int) == 0) = false := by simp; omega
  have n6 : decide ((c : Int) = 0) = false := by simp; omega
  have n2 : (c : Int) - 1 < (n : Int) := by omega
  have n3 : (0 : Int) ≤ (c : Int) - 1 := by omega
  have n4 : (c : Int) < (n : Int) := by omega
  have w1 : IntKind.i64.wrap ((c : Int) - 1) = ((c - 1 : Nat) : Int) := by rw [IntKind.wrap_i64]; omega
  have w3 : wrap64 ((c : Int) - 1) = ((c - 1 : Nat) : Int) := by unfold wrap64; omega
  have n5 : ((c - 1 : Nat) : Int) < (n : Int) := by omega
  go_enter Try.func114, Try.ntmps114
  go_wp2_with fail
  go_quiet (fail)
  go_wp2_with fail
  go_ret
  exact ⟨rfl, _, rfl⟩
set_option maxRecDepth 100000 in
set_option maxHeartbeats 4000000 in
theorem tight2_any (xr xc rs rn rm cs cn cm q qn qm r c : Nat) (k : Nat) (v : Int) (hr : r < rn) (hc : c < cn) (hk : k < qn) (w : World)
    (h1 : w.cell? ⟨xr, 0, none⟩ = some (.slice (some ⟨rs, 0, none⟩) rn rm)) (h2 : w.cell? ⟨xc, 0, none⟩ = some (.slice (some ⟨cs, 0, none⟩) cn cm)) (h3 : w.cell? ⟨rs, r, none⟩ = some (.slice (some ⟨q, 0, none⟩) qn qm)) (h4 : w.cell? ⟨cs, c, none⟩ = some (.int .i64 k)) (h5 : w.cell? ⟨q, k, none⟩ = some (.int .i64 v)) :
    Calls Try.prog 117 #[.int .i64 r, .int .i64 c, .pointer (some ⟨xr, 0, none⟩), .pointer (some ⟨xc, 0, none⟩)] w fun e w' => e = .returned (.int .i64 v) ∧ ∃ q, w' = w.drewN q := by
  have n1 : (r : Int) < (rn : Int) := by omega
  have n2 : (c : Int) < (cn : Int) := by omega
  have n3 : (k : Int) < (qn : Int) := by omega
  go_enter Try.func117, Try.ntmps117
  go_wp2_with fail
  go_region_held3 (fun w' => w'.cell? ⟨xr, 0, none⟩ = some (.slice (some ⟨rs, 0, none⟩) rn rm) ∧ w'.cell? ⟨xc, 0, none⟩ = some (.slice (some ⟨cs, 0, none⟩) cn cm) ∧ w'.cell? ⟨rs, r, none⟩ = some (.slice (some ⟨q, 0, none⟩) qn qm) ∧ w'.cell? ⟨cs, c, none⟩ = some (.int .i64 k) ∧ w'.cell? ⟨q, k, none⟩ = some (.int .i64 v)) (first
    | exact ⟨h1, h2, h3, h4, h5⟩
    | (go_simp)) (fail)
  all_goals
    go_wp2_with fail
    go_ret
    exact ⟨rfl, _, rfl⟩
end Go.Proofs.Ytdhnjecbdclmaaa
end
section
namespace Go.Proofs.Ytdhnjecbdclmaaa
open Go.RowKit Go.Shelf Go.Proofs.YtdhnjecbdclmaaaW.PrintWords Go.Proofs.YtdhnjecbdclmaaaW.PrintMore
set_option linter.unusedVariables false
set_option linter.unusedSimpArgs false
set_option maxRecDepth 100000 in
set_option maxHeartbeats 8000000 in
theorem turned1_any (bx fb h wd : Nat) (cl : Nat → Nat → Int) (boxes : List Box) (r c : Nat) (hr : r < wd) (hc : c < h) (hh : h ≤ 6) (hw : wd ≤ 6) (w : World) (hf : FloorR w fb h wd cl boxes) (hb : w.cell? ⟨bx, 0, none⟩ = some (.pointer (some ⟨fb, 0, none⟩))) :
    Calls Try.prog 182 #[.int .i64 r, .int .i64 c, .pointer (some ⟨bx, 0, none⟩)] w fun e w' => e = .returned (.int .i64 (cl (h - 1 - c) r)) ∧ Below w.heap.size w w' := by
  obtain ⟨g, rb, RA, rc, h1, h2, h3, h4, h5, h6⟩ := hf
  obtain ⟨a1, a2, a3⟩ := h5 (h - 1 - c) (by omega)
  have f0 := a3 r hr
  obtain ⟨q, hq⟩ : ∃ q, rb (h - 1 - c) = q := ⟨_, rfl⟩
  rw [hq] at a2 f0
  have n1 : (c : Int) ≤ (h : Int) - 1 := by omega
  have n2 : (h : Int) - 1 - (c : Int) < (h : Int) := by omega
  have n3 : (0 : Int) ≤ (h : Int) - 1 - (c : Int) := by omega
  have w1 : IntKind.i64.wrap ((h : Int) - 1) = (h : Int) - 1 := by rw [IntKind.wrap_i64]; omega
  have w2 : IntKind.i64.wrap ((h : Int) - 1 - (c : Int)) = (h : Int) - 1 - (c : Int) := by rw [IntKind.wrap_i64]; omega
  have w3 : wrap64 ((h : Int) - 1) = (h : Int) - 1 := by unfold wrap64; omega
  have w4 : wrap64 ((h : Int) - 1 - (c : Int)) = (h : Int) - 1 - (c : Int) := by unfold wrap64; omega
  have HHI : Aside0 (∀ W, W.cell? ⟨fb, 0, none⟩ = some (.slice (some ⟨g, 0, none⟩) h h) → Calls Try.prog 120 #[.pointer (some ⟨fb, 0, none⟩)] W fun e w' => e = .returned (.int .i64 h) ∧ w' = W) := ⟨fun W hW => high_any _ _ h h W hW⟩
  obtain ⟨v, hv⟩ : ∃ v, cl (h - 1 - c) r = v := ⟨_, rfl⟩
  rw [hv] at f0
  rw [hv]
  clear h5 h6 a1 a3 hq hv h4 h1 h2
  go_enter Try.func182, Try.ntmps182
  go_wp2_with fail
  go_region_held3 (fun w' => w'.cell? ⟨bx, 0, none⟩ = some (.pointer (some ⟨fb, 0, none⟩)) ∧ w'.cell? ⟨fb, 0, none⟩ = some (.slice (some ⟨g, 0, none⟩) h h) ∧ w'.cell? ⟨g, h - 1 - c, none⟩ = some (.slice (some ⟨q, 0, none⟩) wd wd) ∧ w'.cell? ⟨q, r, none⟩ = some (.int .i64 v)) (first
    | exact ⟨hb, h3, a2, f0⟩
    | (go_simp)) ((go_at_call 120; refine Calls.mono (HHI.out _ h3) ?_; rintro e w3 ⟨rfl, rfl⟩))
  all_goals
    go_wp2_with fail
    go_ret
    exact ⟨rfl, by repeat (first | exact Below.refl _ _ | apply pw_below_drewN)⟩
def Grown (w w' : World) (hi wd : Nat) (val : Nat → Nat → Int) (e : Ending) : Prop := ∃ (gb : Nat) (rows : List (Nat × List Int)), e = .returned (.slice (some ⟨gb, 0, none⟩) hi hi) ∧ rows.map Prod.snd = (List.range hi).map (fun r => (List.range wd).map fun c => val r c) ∧ GridAt w' gb hi rows ∧ Below w.heap.size w w'
theorem enter_t (args : Array Value) (W : World) : (callFunc 182 args).run Try.prog W = .ok (.enter 182 args) W := by kernel_rfl
theorem div_at {wd r c : Nat} (hc : c < wd) : (r * wd + c) / wd = r ∧ (r * wd + c) % wd = c := by
  have h0 : 0 < wd := by omega
  refine ⟨?_, ?_⟩
  · rw [Nat.mul_comm, Nat.mul_add_div h0, Nat.div_eq_of_lt hc, Nat.add_zero]
  · rw [Nat.mul_comm, Nat.mul_add_mod, Nat.mod_eq_of_lt hc]
theorem spares_of {hb : Nat} {W W' : World} (h : Below W.heap.size W W') : Spares hb W W' := fun j cs t _ hj _ => by
  rw [h.block j (Array.getElem?_eq_some_iff.1 hj).1]; exact hj
theorem blank_ro (hi wd : Nat) (hhi : 1 ≤ hi ∧ hi ≤ 100) (hwd : 1 ≤ wd ∧ wd ≤ 100) (cl : Nat) (cap : Array Value) (val : Nat → Nat → Int) (w : World)
    (hent : ∀ args W, (callFunc cl args).run Try.prog W = .ok (.enter cl args) W)
    (hcall : ∀ r c W, r < hi → c < wd → Below w.heap.size w W → Calls Try.prog cl (#[.int .i64 r, .int .i64 c] ++ cap) W fun e W' => e = .returned (.int .i64 (val r c)) ∧ Below W.heap.size W W') :
    Calls Try.prog 116 #[.int .i64 hi, .int .i64 wd, .func (.func cl) #[] cap] w fun e w' => Grown w w' hi wd val e := by
  refine (blank_any hi wd hhi hwd cl cap (fun n => val (n / wd) (n % wd)) w.heap.size w (Nat.le_refl _) (fun _ _ => True) trivial (fun _ _ _ _ _ _ => trivial) hent ?_).mono ?_
  · intro r c W hr hc _ hB
    refine (hcall r c W hr hc hB).mono ?_
    rintro e W' ⟨rfl, hb⟩
    refine ⟨?_, trivial, hb.mono hB.size, spares_of hb⟩
    show _ = Ending.returned (.int .i64 (val ((r * wd + c) / wd) ((r * wd + c) % wd)))
    rw [(div_at hc).1, (div_at hc).2]
  · rintro e w' ⟨rows, rfl, h1, h2, _, _, h3⟩
    refine ⟨_, rows, rfl, h1.trans ?_, h2, h3⟩
    refine List.map_congr_left fun r _ => List.map_congr_left fun c hc => ?_
    have hc := List.mem_range.1 hc
    rw [(div_at hc).1, (div_at hc).2]
set_option maxRecDepth 100000 in
set_option maxHeartbeats 8000000 in
theorem turned_any (fb h wd : Nat) (cl : Nat → Nat → Int) (boxes : List Box) (hh : 1 ≤ h ∧ h ≤ 6) (hw : 1 ≤ wd ∧ wd ≤ 6) (w : World) (hf : FloorR w fb h wd cl boxes) :
    Calls Try.prog 107 #[.pointer (some ⟨fb, 0, none⟩)] w fun e w' => Grown w w' wd h (fun r c => cl (h - 1 - c) r) e := by
  have HF := Aside0.mk hf
  obtain ⟨g, rb, RA, rc, h1, h2, h3, h4, h5, h6⟩ := hf
  obtain ⟨b1, b2, b3⟩ := h5 0 (by omega)
  have HHI : Aside0 (∀ W, W.cell? ⟨fb, 0, none⟩ = some (.slice (some ⟨g, 0, none⟩) h h) → Calls Try.prog 120 #[.pointer (some ⟨fb, 0, none⟩)] W fun e w' => e = .returned (.int .i64 h) ∧ w' = W) := ⟨fun W hW => high_any _ _ h h W hW⟩
  have HWI : Aside0 (∀ W, W.cell? ⟨fb, 0, none⟩ = some (.slice (some ⟨g, 0, none⟩) h h) → W.cell? ⟨g, 0, none⟩ = some (.slice (some ⟨rb 0, 0, none⟩) wd wd) → Calls Try.prog 113 #[.pointer (some ⟨fb, 0, none⟩)] W fun e w' => e = .returned (.int .i64 wd) ∧ w' = W) := ⟨fun W hW hW2 => wide_any _ g h h hh.1 _ wd wd W hW hW2⟩
  have HBL : Aside0 (∀ W, Below w.heap.size w W → W.cell? ⟨w.heap.size, 0, none⟩ = some (.pointer (some ⟨fb, 0, none⟩)) → w.heap.size < W.heap.size → Calls Try.prog 116 #[.int .i64 wd, .int .i64 h, .func (.func 182) #[] #[.pointer (some ⟨w.heap.size, 0, none⟩)]] W fun e w' => Grown W w' wd h (fun r c => cl (h - 1 - c) r) e) := ⟨fun W hW hbx hlt => blank_ro wd h ⟨by omega, by omega⟩ ⟨by omega, by omega⟩ 182 #[.pointer (some ⟨w.heap.size, 0, none⟩)] _ W enter_t (fun r c W' hr hc hB => turned1_any w.heap.size fb h wd cl boxes r c hr hc hh.2 hw.2 W' (HF.out.below (hW.trans (hB.mono hW.size))) ((hB.cell (p := ⟨w.heap.size, 0, none⟩) hlt).trans hbx))⟩
  have HB0 : Aside0 (Below w.heap.size w (w.alloc (.cells #[.pointer (some ⟨fb, 0, none⟩)] 51))) := ⟨(Below.refl _ _).alloc (Nat.le_refl _) _⟩
  have HC0 : Aside0 ((w.alloc (.cells #[.pointer (some ⟨fb, 0, none⟩)] 51)).cell? ⟨w.heap.size, 0, none⟩ = some (.pointer (some ⟨fb, 0, none⟩))) := ⟨by rw [Lib.cell_of_heap (heap_alloc_new w _)]; rfl⟩
  have HC1 : Aside0 ((w.alloc (.cells #[.pointer (some ⟨fb, 0, none⟩)] 51)).cell? ⟨fb, 0, none⟩ = some (.slice (some ⟨g, 0, none⟩) h h)) := ⟨(HB0.out.cell (p := ⟨fb, 0, none⟩) h1).trans h3⟩
  have HC2 : Aside0 ((w.alloc (.cells #[.pointer (some ⟨fb, 0, none⟩)] 51)).cell? ⟨g, 0, none⟩ = some (.slice (some ⟨rb 0, 0, none⟩) wd wd)) := ⟨(HB0.out.cell (p := ⟨g, 0, none⟩) h2).trans b2⟩
  clear h5 h6 h1 h2 h3 h4 b1 b2 b3
  go_enter Try.func107, Try.ntmps107
  go_wp2_with fail
  go_region_held3 (fun w' => w'.cell? ⟨w.heap.size, 0, none⟩ = some (.pointer (some ⟨fb, 0, none⟩))) (first
    | exact HC0.out
    | exact hc4
    | (go_simp)) (first
    | (go_at_call 120; refine Calls.mono (HHI.out _ HC1.out) ?_; rintro e w3 ⟨rfl, rfl⟩)
    | (go_at_call 113; refine Calls.mono (HWI.out _ HC1.out HC2.out) ?_; rintro e w3 ⟨rfl, rfl⟩)
    | (go_at_call 116; refine Calls.mono (HBL.out _ (by repeat (first | exact HB0.out | apply pw_below_drewN)) HC0.out (by simp)) ?_; rintro e w4 ⟨gb, rows, rfl, g1, g2, g3⟩; have hc4 : w4.cell? ⟨w.heap.size, 0, none⟩ = some (.pointer (some ⟨fb, 0, none⟩)) := (g3.cell (p := ⟨w.heap.size, 0, none⟩) (by simp)).trans HC0.out; have HG := Aside0.mk (And.intro g1 (And.intro g2 g3)); clear g1 g2 g3))
  all_goals
    go_wp2_with fail
    go_ret
    exact ⟨gb, rows, rfl, HG.out.1, HG.out.2.1, Below.trans (by repeat (first | exact HB0.out | apply pw_below_drewN)) (HG.out.2.2.mono HB0.out.size)⟩
end Go.Proofs.Ytdhnjecbdclmaaa
end
section
namespace Go.Proofs.Ytdhnjecbdclmaaa
open Go.RowKit Go.Shelf Go.Proofs.YtdhnjecbdclmaaaW.PrintWords Go.Proofs.YtdhnjecbdclmaaaW.PrintMore
set_option linter.unusedVariables false
set_option linter.unusedSimpArgs false
theorem GridAt.in_ {W : World} {g n : Nat} {rows : List (Nat × List Int)} (h : GridAt W g n rows) : GridIn W g (rows.map Prod.snd) := by
  refine ⟨_, h.1, fun r row hr => ?_⟩
  rw [List.getElem?_map] at hr
  obtain ⟨⟨a, xs⟩, h1, rfl⟩ := Option.map_eq_some_iff.1 hr
  obtain ⟨hl, hg⟩ := List.getElem?_eq_some_iff.1 h1
  refine ⟨a, xs.length, ?_, _, h.2 _ (List.mem_of_getElem? h1), fun c x hx => ?_⟩
  · rw [List.getElem?_toArray, List.getElem?_append_left (by rw [List.length_map]; exact hl), List.getElem?_map, h1]
    rfl
  · rw [List.getElem?_toArray, List.getElem?_map]
    show Option.map _ xs[c]? = _
    rw [hx]; rfl
def planV (rows : List (List Int)) : List ByteArray × Bool := if (shapeB rows && decide ((scanOf rows).2.length ≤ 9)) && fullB rows then ((numsOf rows).map rowText, true) else ([], false)
theorem nums_smallR {rows : List (List Int)} (hs : shapeB rows = true) : (numsOf rows).length ≤ 6 ∧ ∀ row ∈ numsOf rows, row.length ≤ 6 ∧ ∀ k ∈ row, (0 : Int) ≤ k ∧ k ≤ 100 := by
  have h6 : rows.length ≤ 6 ∧ (rows.getD 0 []).length ≤ 6 := by
    unfold shapeB at hs
    simp only [Bool.and_eq_true, decide_eq_true_eq] at hs
    exact ⟨hs.1.1.1.2, hs.1.2⟩
  unfold numsOf
  refine ⟨by rw [List.length_map, List.length_range]; exact h6.1, fun row hrow => ?_⟩
  obtain ⟨r, hr, rfl⟩ := List.mem_map.1 hrow
  have hr := List.mem_range.1 hr
  refine ⟨by rw [List.length_map, List.length_range]; exact h6.2, fun k hk => ?_⟩
  obtain ⟨c, hc, rfl⟩ := List.mem_map.1 hk
  have hc := List.mem_range.1 hc
  refine ⟨Int.natCast_nonneg _, ?_⟩
  have h1 : numAt (rows.getD 0 []).length (cellOf rows (rows.getD 0 []).length) (r * (rows.getD 0 []).length + c) ≤ r * (rows.getD 0 []).length + c := by
    unfold numAt
    exact Nat.le_trans List.idxOf_le_length (scan_len_le _ _ _)
  have h2 : r * (rows.getD 0 []).length ≤ 5 * 6 := Nat.mul_le_mul (by omega) h6.2
  omega
def PlanE (rows : List (List Int)) (w w' : World) (e : Ending) : Prop := (∃ A c, e = .returned (.tuple #[.slice A (planV rows).1.length c, .bool (planV rows).2]) ∧ (planV rows).1.length ≤ c ∧ Kd.C Kd.string w' A (planV rows).1.length (planV rows).1) ∧ Below w.heap.size w w'
theorem nil_C (W : World) : Kd.C Kd.string W none 0 [] := Kd.C_of_reads (d := ByteArray.empty) (enc := Value.string) (h1 := fun _ => rfl) ⟨rfl, Nat.zero_le _, fun h => absurd h (Nat.lt_irrefl 0)⟩
set_option maxRecDepth 100000 in
set_option maxHeartbeats 4000000 in
theorem plan_any (gb n : Nat) (rows : List (Nat × List Int)) (hl : rows.length = n) (hn : n ≤ 100) (w : World) (hg : GridAt w gb n rows) (hx : ∀ row ∈ rows.map Prod.snd, ∀ x ∈ row, (0 : Int) ≤ x ∧ x ≤ 1000) (hrl : ∀ row ∈ rows.map Prod.snd, row.length ≤ 100) :
    Calls Try.prog 181 #[.slice (some ⟨gb, 0, none⟩) n n] w fun e w' => PlanE (rows.map Prod.snd) w w' e := by
  have HST := settled_any gb n (rows.map Prod.snd) (by rw [List.length_map]; omega) w hg.in_ hx (fun row h => by have := hrl row h; omega)
  rw [List.length_map, hl] at HST
  obtain ⟨R, hR⟩ : ∃ R, rows.map Prod.snd = R := ⟨_, rfl⟩
  rw [hR] at HST ⊢
  clear hg hx hrl hR
  go_enter Try.func181, Try.ntmps181
  go_wp2_with fail
  refine HST.mono ?_
  rintro e w1 ⟨hb1, ⟨hsh, fb, rfl, hfl⟩ | ⟨hsh, rfl⟩⟩
  · have HB := Aside0.mk hb1
    cases hfu : fullB R with
    | false =>
      have HV : Aside0 (planV R = ([], false)) := ⟨by unfold planV; rw [hfu, Bool.and_false]; rfl⟩
      clear hsh hfl hb1 hfu
      go_wp2_with fail
      go_ret2
      exact ⟨⟨none, 0, by rw [HV.out]; rfl, by rw [HV.out]; exact Nat.le_refl _, by rw [HV.out]; exact nil_C _⟩, HB.out⟩
    | true =>
      have HV : Aside0 (planV R = ((numsOf R).map rowText, true)) := ⟨by unfold planV; rw [hsh, hfu]; rfl⟩
      have hshape : shapeB R = true := by simp only [Bool.and_eq_true] at hsh; exact hsh.1
      obtain ⟨hn1, hn2⟩ := nums_smallR hshape
      obtain ⟨g, hh, rv, rows', k1, k2, k3, k4, k5, k6⟩ := hfl
      have hrows : ∀ x ∈ rows', x.2.length ≤ 100 ∧ ∀ k ∈ x.2, (0 : Int) ≤ k ∧ k ≤ 100 := fun x hx => by
        have := hn2 x.2 (by rw [← k3]; exact List.mem_map_of_mem hx)
        exact ⟨by omega, this.2⟩
      have hh6 : hh ≤ 6 := by
        rw [← k4]
        have := congrArg List.length k3
        rw [List.length_map] at this
        omega
      have HTX := text_any fb g hh rv rows' w1 k1 k2 k4 (by omega) hrows
      have HSL : Aside0 (((rows'.map Prod.snd).map rowText).length = hh) := ⟨by rw [List.length_map, List.length_map, k4]⟩
      have HK3 := Aside0.mk k3
      clear k1 k2 k3 k4 k5 k6 hrows hn1 hn2 hshape hsh hfu hb1
      go_wp2_with fail
      refine HTX.mono ?_
      rintro e w2 ⟨rfl, hst, hb2⟩
      have HB2 := Aside0.mk hb2
      have HCS := Aside0.mk (StrsAt.reads hst HSL.out (by omega))
      clear hst hb2
      go_wp2_with fail
      go_ret2
      have hlen := HSL.out
      rw [HK3.out] at hlen
      have hC := HCS.out
      rw [HK3.out] at hC
      refine ⟨⟨some ⟨w1.heap.size, 0, none⟩, hh, ?_, ?_, ?_⟩, HB.out.trans (HB2.out.mono HB.out.size)⟩
      · rw [HV.out]
        show Ending.returned _ = Ending.returned (.tuple #[.slice _ ((numsOf R).map rowText).length _, .bool true])
        rw [hlen]; rfl
      · rw [HV.out]
        show ((numsOf R).map rowText).length ≤ hh
        omega
      · rw [HV.out]; exact hC
  · have HB := Aside0.mk hb1
    have HV : Aside0 (planV R = ([], false)) := ⟨by unfold planV; rw [hsh, Bool.false_and]; rfl⟩
    clear hsh hb1
    go_wp2_with fail
    go_ret2
    exact ⟨⟨none, 0, by rw [HV.out]; rfl, by rw [HV.out]; exact Nat.le_refl _, by rw [HV.out]; exact nil_C _⟩, HB.out⟩
def gridV (hi wd : Nat) (val : Nat → Nat → Int) : List (List Int) := (List.range hi).map fun r => (List.range wd).map fun c => val r c
def RemadeE (p : List ByteArray) (R : List (List Int)) (w w' : World) (e : Ending) : Prop := (∃ A c V, V = (if planG p then planV R else ([], false)) ∧ e = .returned (.tuple #[.slice A V.1.length c, .bool V.2]) ∧ V.1.length ≤ c ∧ Kd.C Kd.string w' A V.1.length V.1) ∧ Below w.heap.size w w'
set_option maxRecDepth 100000 in
set_option maxHeartbeats 8000000 in
theorem remade_any (fn : Nat) (hent : ∀ args W, (callFunc fn args).run Try.prog W = .ok (.enter fn args) W) (A : Option Addr) (cap : Nat) (p : List ByteArray) (hp : SmallP p) (hi wd : Nat) (val : Nat → Nat → Int) (hhi : planG p = true → hi ≤ 100 ∧ wd ≤ 100 ∧ ∀ r c, r < hi → c < wd → 0 ≤ val r c ∧ val r c ≤ 1000)
    (how : planG p = true → ∀ fb W, FloorR W fb p.length (wdP p) (clP p) (boxesP p) → Calls Try.prog fn #[.pointer (some ⟨fb, 0, none⟩)] W fun e w' => Grown W w' hi wd val e) (w : World) (hr0 : Kd.C Kd.string w A p.length p) (hc0 : p.length ≤ cap) :
    Calls Try.prog 106 #[.slice A p.length cap, .func (.func fn) #[] #[]] w fun e w' => RemadeE p (gridV hi wd val) w w' e := by
  have HFL := floorOf_any A cap p hp.1 hp.2 w hr0 hc0
  have HOW := Aside0.mk how
  have HHI := Aside0.mk hhi
  clear hr0 how hhi
  go_enter Try.func106, Try.ntmps106
  go_wp2_with fail
  refine HFL.mono ?_
  rintro e w1 ⟨hb1, ⟨hpl, fb, base, rfl, hbase, hfl⟩ | ⟨hpl, o, rfl⟩⟩
  · have HB1 := Aside0.mk hb1
    have HC := Aside0.mk (HOW.out hpl fb w1 hfl.reads)
    have HPL := Aside0.mk hpl
    obtain ⟨hv1, hv2, hv3⟩ := HHI.out hpl
    have HV3 := Aside0.mk hv3
    clear hb1 hpl hfl hv3
    go_wp2_with fail
    refine HC.out.mono ?_
    rintro e w2 ⟨gb, rows, rfl, g1, g2, g3⟩
    have HB2 := Aside0.mk (HB1.out.trans (g3.mono HB1.out.size))
    have hlen : rows.length = hi := by have := congrArg List.length g1; simpa using this
    have hcell : ∀ row ∈ rows.map Prod.snd, row.length ≤ 100 ∧ ∀ x ∈ row, (0 : Int) ≤ x ∧ x ≤ 1000 := fun row hrow => by
      rw [g1] at hrow
      obtain ⟨r, hr, rfl⟩ := List.mem_map.1 hrow
      refine ⟨by rw [List.length_map, List.length_range]; omega, fun x hx => ?_⟩
      obtain ⟨c, hc, rfl⟩ := List.mem_map.1 hx
      exact HV3.out r c (List.mem_range.1 hr) (List.mem_range.1 hc)
    have HPN := plan_any gb hi rows hlen hv1 w2 g2 (fun row h => (hcell row h).2) (fun row h => (hcell row h).1)
    rw [g1] at HPN
    clear g1 g2 g3 hcell hlen
    go_wp2_with fail
    refine HPN.mono ?_
    rintro e w3 ⟨⟨A3, c3, rfl, h1, h2⟩, hb3⟩
    have HB3 := Aside0.mk (HB2.out.trans (hb3.mono HB2.out.size))
    have HC3 := Aside0.mk (And.intro h1 h2)
    clear h1 h2 hb3
    go_wp2_with fail
    go_ret2
    exact ⟨⟨A3, c3, planV (gridV hi wd val), by rw [if_pos HPL.out], rfl, HC3.out.1, HC3.out.2⟩, HB3.out⟩
  · have HB1 := Aside0.mk hb1
    have HPL := Aside0.mk hpl
    clear hb1 hpl
    go_wp2_with fail
    go_ret2
    exact ⟨⟨none, 0, ([], false), by rw [HPL.out]; rfl, rfl, Nat.le_refl _, nil_C _⟩, HB1.out⟩
theorem enter_tu (args : Array Value) (W : World) : (callFunc 107 args).run Try.prog W = .ok (.enter 107 args) W := by kernel_rfl
def turnR (p : List ByteArray) : List (List Int) := gridV (wdP p) p.length fun r c => clP p (p.length - 1 - c) r
theorem clP_small {p : List ByteArray} (h : planG p = true) {i j : Nat} (hi : i < p.length) (hj : j < wdP p) : 0 ≤ clP p i j ∧ clP p i j ≤ 1000 := by
  obtain ⟨k, hk, e⟩ := (planFlat h).num i j hi hj
  have := (planFlat h).few
  omega
set_option maxHeartbeats 4000000 in
theorem planTurn_any (A : Option Addr) (cap : Nat) (p : List ByteArray) (hp : SmallP p) (w : World) (hr0 : Kd.C Kd.string w A p.length p) (hc0 : p.length ≤ cap) :
    Calls Try.prog 47 #[.slice A p.length cap] w fun e w' => RemadeE p (turnR p) w w' e := by
  have HR := remade_any 107 enter_tu A cap p hp (wdP p) p.length (fun r c => clP p (p.length - 1 - c) r)
    (fun h => ⟨by have := (planFlat h).wide; omega, by have := (planFlat h).high; omega, fun r c hr hc => clP_small h (by omega) hr⟩)
    (fun h fb W hF => turned_any fb p.length (wdP p) (clP p) (boxesP p) (planFlat h).high (planFlat h).wide W hF) w hr0 hc0
  clear hr0
  go_enter Try.func47, Try.ntmps47
  go_wp2_with fail
  refine HR.mono ?_
  rintro e w1 ⟨⟨A1, c1, ⟨V, b⟩, hv, rfl, h1, h2⟩, hb⟩
  have HC := Aside0.mk (And.intro hv (And.intro h1 (And.intro h2 hb)))
  clear hv h1 h2 hb
  dsimp only
  go_wp2_with fail
  go_ret2
  exact ⟨⟨A1, c1, (V, b), HC.out.1, rfl, HC.out.2.1, HC.out.2.2.1⟩, HC.out.2.2.2⟩
end Go.Proofs.Ytdhnjecbdclmaaa
end
section
namespace Go.Proofs.Ytdhnjecbdclmaaa
open Go.RowKit Go.Shelf Go.Proofs.YtdhnjecbdclmaaaW.PrintWords Go.Proofs.YtdhnjecbdclmaaaW.PrintMore
set_option linter.unusedVariables false
end Go.Proofs.Ytdhnjecbdclmaaa
end
section
namespace Go.Proofs.Ytdhnjecbdclmaaa
open Go.RowKit Go.Shelf Go.Proofs.YtdhnjecbdclmaaaW.PrintWords Go.Proofs.YtdhnjecbdclmaaaW.PrintMore
set_option linter.unusedVariables false
set_option linter.unusedSimpArgs false
end Go.Proofs.Ytdhnjecbdclmaaa
end
section
namespace Go.Proofs.Ytdhnjecbdclmaaa
open Go.RowKit Go.Shelf Go.Proofs.YtdhnjecbdclmaaaW.PrintWords Go.Proofs.YtdhnjecbdclmaaaW.PrintMore
set_option linter.unusedVariables false
set_option linter.unusedSimpArgs false
end Go.Proofs.Ytdhnjecbdclmaaa
end
section
namespace Go.Proofs.Ytdhnjecbdclmaaa
open Go.RowKit Go.Shelf Go.Proofs.YtdhnjecbdclmaaaW.PrintWords Go.Proofs.YtdhnjecbdclmaaaW.PrintMore
set_option linter.unusedVariables false
set_option linter.unusedSimpArgs false
def BoxFl (h wd : Nat) (B : Box) : Prop := ∃ r c ph pw : Nat, B = natB r c ph pw ∧ 1 ≤ ph ∧ 1 ≤ pw ∧ r + ph ≤ h ∧ c + pw ≤ wd
theorem BoxFl.in_ {h wd : Nat} {A : Box} (ha : BoxFl h wd A) (hh : h ≤ 6) (hw : wd ≤ 6) : BoxIn A ∧ 1 ≤ areaB A ∧ areaB A ≤ 36 := by
  obtain ⟨a1, a2, a3, a4, rfl, a5, a6, a7, a8⟩ := ha
  refine ⟨?_, ?_⟩
  · unfold BoxIn natB
    simp only
    omega
  · show 1 ≤ ((a3 : Int) * (a4 : Int)) ∧ ((a3 : Int) * (a4 : Int)) ≤ 36
    have h1 : a3 * a4 ≤ 6 * 6 := Nat.mul_le_mul (by omega) (by omega)
    have h2 : 1 * 1 ≤ a3 * a4 := Nat.mul_le_mul a5 a6
    rw [← Int.natCast_mul]
    omega
end Go.Proofs.Ytdhnjecbdclmaaa
end
section
namespace Go.Proofs.Ytdhnjecbdclmaaa
open Go.RowKit Go.Shelf Go.Proofs.YtdhnjecbdclmaaaW.PrintWords Go.Proofs.YtdhnjecbdclmaaaW.PrintMore
set_option linter.unusedVariables false
end Go.Proofs.Ytdhnjecbdclmaaa
end
section
namespace Go.Proofs.Ytdhnjecbdclmaaa
open Go.RowKit Go.Shelf Go.Proofs.YtdhnjecbdclmaaaW.PrintWords Go.Proofs.YtdhnjecbdclmaaaW.PrintMore
set_option linter.unusedVariables false
end Go.Proofs.Ytdhnjecbdclmaaa
end
section
namespace Go.Proofs.Ytdhnjecbdclmaaa
open Go.RowKit Go.Shelf Go.Proofs.YtdhnjecbdclmaaaW.PrintWords Go.Proofs.YtdhnjecbdclmaaaW.PrintMore
set_option linter.unusedVariables false
set_option linter.unusedSimpArgs false
def cnt1 (P : Nat → Prop) [DecidablePred P] : Nat → Nat
  | 0 => 0
  | n + 1 => cnt1 P n + if P n then 1 else 0
section
variable {P Q : Nat → Prop} [DecidablePred P] [DecidablePred Q]
theorem cnt1_int (a d : Nat) (n : Nat) : cnt1 (fun i => a ≤ i ∧ i < a + d) n = min n (a + d) - min n a := by
  induction n with
  | zero => simp [cnt1]
  | succ n ih =>
    unfold cnt1
    rw [ih]
    by_cases h : a ≤ n ∧ n < a + d
    · rw [if_pos h]; omega
    · rw [if_neg h]; omega
end
def sumR (g : Nat → Nat) : Nat → Nat
  | 0 => 0
  | n + 1 => sumR g n + g n
theorem sumR_congr {g k : Nat → Nat} (n : Nat) (h : ∀ i, i < n → g i = k i) : sumR g n = sumR k n := by
  induction n with
  | zero => rfl
  | succ n ih => unfold sumR; rw [ih (fun i hi => h i (by omega)), h n (by omega)]
theorem sumR_box (a d e : Nat) (n : Nat) : sumR (fun i => if a ≤ i ∧ i < a + d then e else 0) n = (min n (a + d) - min n a) * e := by
  induction n with
  | zero => simp [sumR]
  | succ n ih =>
    unfold sumR
    rw [ih]
    by_cases h : a ≤ n ∧ n < a + d
    · rw [if_pos h, show min (n + 1) (a + d) - min (n + 1) a = (min n (a + d) - min n a) + 1 by omega, Nat.succ_mul]
    · rw [if_neg h, show min (n + 1) (a + d) - min (n + 1) a = min n (a + d) - min n a by omega]; rfl
theorem cnt1_congr {P Q : Nat → Prop} [DecidablePred P] [DecidablePred Q] (n : Nat) (h : ∀ i, i < n → (P i ↔ Q i)) : cnt1 P n = cnt1 Q n := by
  induction n with
  | zero => rfl
  | succ n ih =>
    unfold cnt1
    rw [ih (fun i hi => h i (by omega))]
    by_cases hp : P n
    · rw [if_pos hp, if_pos ((h n (by omega)).1 hp)]
    · rw [if_neg hp, if_neg (fun hq => hp ((h n (by omega)).2 hq))]
theorem cnt1_none {P : Nat → Prop} [DecidablePred P] (n : Nat) (h : ∀ i, i < n → ¬ P i) : cnt1 P n = 0 := by
  induction n with
  | zero => rfl
  | succ n ih => unfold cnt1; rw [ih (fun i hi => h i (by omega)), if_neg (h n (by omega))]
theorem cells_room {cl : Nat → Nat → Int} {boxes : List Box} {h wd r c ph pw : Nat} (f : Flat cl boxes h wd) (hr : r + ph ≤ h) (hc : c + pw ≤ wd) (k : Nat) (hk : k < boxes.length) (hin : bothB (natB r c ph pw) boxes[k] = natB r c ph pw) :
    ((sumR (fun i => cnt1 (fun j => cl (r + i) (c + j) = (k : Int)) pw) ph : Nat) : Int) = areaB boxes[k] := by
  obtain ⟨a, b, d, e, hb, h1, h2, h3, h4, hcl⟩ := f.box k hk
  rw [hb, both_within] at hin
  rw [hb]
  have e1 : sumR (fun i => cnt1 (fun j => cl (r + i) (c + j) = (k : Int)) pw) ph = sumR (fun i => if a - r ≤ i ∧ i < a - r + d then e else 0) ph := by
    refine sumR_congr ph fun i hi => ?_
    by_cases hio : a - r ≤ i ∧ i < a - r + d
    · rw [if_pos hio, cnt1_congr (Q := fun j => b - c ≤ j ∧ j < b - c + e) pw (fun j hj => by rw [hcl (r + i) (c + j) (by omega) (by omega)]; omega), cnt1_int]
      omega
    · rw [if_neg hio]
      exact cnt1_none pw (fun j hj hcj => by rw [hcl (r + i) (c + j) (by omega) (by omega)] at hcj; omega)
  rw [e1, sumR_box, show min ph (a - r + d) - min ph (a - r) = d by omega]
  show ((d * e : Nat) : Int) = (d : Int) * (e : Int)
  rw [Int.natCast_mul]
end Go.Proofs.Ytdhnjecbdclmaaa
end
