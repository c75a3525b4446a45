/- The reference's l5Just: for each room the set of rooms that it is just left of, or just above, by hand. -/
import Derived.Test.YtdhnjecbdclmaaaKLSides
import Derived.Test.YtdhnjecbdclmaaaKLBitPM
import Derived.Test.YtdhnjecbdclmaaaKLOrders
namespace Go.Proofs.Ytdhnjecbdclmaaa
open Go.RowKit Go.Shelf Go.Proofs.YtdhnjecbdclmaaaW.PrintWords Go.Proofs.YtdhnjecbdclmaaaW.PrintMore
set_option linter.unusedVariables false
set_option linter.unusedSimpArgs false
theorem dfL_grid (cl : Nat → Nat → Int) (level : Bool) (line : Nat) : dfL (gridOf cl 0 0) level line = dfL cl level line := by
  funext k
  unfold dfL sidesL gridOf
  simp only [Nat.zero_add]
  rw [Bool.eq_iff_iff]
  cases level
  · simp only [Bool.false_eq_true, if_false, bne_iff_ne]; omega
  · simp only [if_true, bne_iff_ne]; omega
theorem walls_grid (cl : Nat → Nat → Int) (h wd : Nat) : wallsL (gridOf cl 0 0) h wd = wallsL cl h wd := by
  have hr : ∀ level line n, wallsRow (gridOf cl 0 0) level line n = wallsRow cl level line n := fun level line n => by unfold wallsRow; rw [dfL_grid]
  have hf : ∀ level places d, wallsFrom (gridOf cl 0 0) level places d = wallsFrom cl level places d := by
    intro level places d
    induction d with
    | zero => rfl
    | succ d ih => unfold wallsFrom; rw [ih, hr]
  unfold wallsL
  rw [hf, hf]
def setsL (R : Nat → Nat → Bool) (n : Nat) : List Int := (List.range n).map fun a => ((bitsN (R a) n : Nat) : Int)
theorem setsL_len (R : Nat → Nat → Bool) (n : Nat) : (setsL R n).length = n := by simp [setsL]
def justS (p : List ByteArray) (kind : Bool) : List Int := setsL (justB (clP p) kind (wallsL (clP p) p.length (wdP p))) (boxesP p).length
theorem setsL_set (R : Nat → Nat → Bool) {n a b : Nat} (ha : a < n) (hb : b < n) : setsL (setR R a b true) n = (setsL R n).set a ((bitsN (R a) n ||| 2 ^ b : Nat) : Int) := by
  apply List.ext_getElem?
  intro i
  rw [List.getElem?_set]
  unfold setsL
  simp only [List.getElem?_map, List.length_map, List.length_range]
  by_cases e : a = i
  · subst e
    rw [if_pos rfl, if_pos ha, List.getElem?_range ha, bits_one _ hb]
    show some _ = some _
    congr 1
    show ((_ : Nat) : Int) = ((_ : Nat) : Int)
    congr 1
    apply bitsN_cong
    intro j hj
    unfold setR
    by_cases e : j = b
    · subst e; simp
    · simp [e]
  · rw [if_neg e]
    by_cases hi : i < n
    · rw [List.getElem?_range hi]
      show some _ = some _
      congr 1
      show ((_ : Nat) : Int) = ((_ : Nat) : Int)
      congr 1
      apply bitsN_cong
      intro j hj
      unfold setR
      rw [if_neg (fun h => e h.1.symm)]
    · rw [List.getElem?_eq_none (by simp; omega)]; rfl
def SetsW (W : World) (g n : Nat) (R : Nat → Nat → Bool) : Prop := W.heap[g]? = some (.cells ((setsL R n).map (Value.int .i64)).toArray 3 (0, 0))
theorem SetsW.at {W : World} {g n : Nat} {R : Nat → Nat → Bool} (h : SetsW W g n R) {a : Nat} (ha : a < n) : W.cell? ⟨g, a, none⟩ = some (.int .i64 ((bitsN (R a) n : Nat) : Int)) ∧ W.frozen? ⟨g, a, none⟩ = false := by
  refine ⟨?_, Lib.frozen_of_heap h a⟩
  rw [Lib.cell_of_heap h]
  simp [setsL, List.getElem?_range ha]
theorem SetsW.set {W : World} {g n : Nat} {R : Nat → Nat → Bool} (h : SetsW W g n R) {a b : Nat} (ha : a < n) (hb : b < n) : SetsW (W.setCell ⟨g, a, none⟩ (.int .i64 ((bitsN (R a) n ||| 2 ^ b : Nat) : Int))) g n (setR R a b true) := by
  unfold SetsW
  rw [setsL_set R ha hb]
  have h1 : (W.setCell ⟨g, a, none⟩ (.int .i64 ((bitsN (R a) n ||| 2 ^ b : Nat) : Int))).heap[g]? = some (.cells (((setsL R n).map (Value.int .i64)).toArray.setIfInBounds a (.int .i64 ((bitsN (R a) n ||| 2 ^ b : Nat) : Int))) 3 (0, 0)) := by
    have h' : W.heap[g]? = _ := h
    simp only [World.setCell, Array.getElem?_modify, if_pos rfl, h']
    rfl
  rw [h1]
  congr 2
  simp
theorem setsL_none (n : Nat) : (setsL (fun _ _ => false) n).map (Value.int .i64) = List.replicate n (Value.int .i64 0) := by
  have e : ∀ m, bitsN (fun _ => false) m = 0 := by
    intro m
    induction m with
    | zero => rfl
    | succ m ih => unfold bitsN; rw [ih]; rfl
  unfold setsL
  simp only [e]
  rw [List.map_const', List.length_range]
  simp
theorem pow_nine {y : Nat} (hy : y < 9) : (2 : Int) ^ y = ((2 ^ y : Nat) : Int) ∧ 2 ^ y < 512 := by
  have : y = 0 ∨ y = 1 ∨ y = 2 ∨ y = 3 ∨ y = 4 ∨ y = 5 ∨ y = 6 ∨ y = 7 ∨ y = 8 := by omega
  rcases this with rfl | rfl | rfl | rfl | rfl | rfl | rfl | rfl | rfl <;> decide
theorem pow_wrap {y : Nat} (hy : y < 9) : IntKind.i64.wrap ((2 : Int) ^ y) = (2 : Int) ^ y := by
  obtain ⟨e, h⟩ := pow_nine hy
  rw [e]
  obtain ⟨q, hq⟩ : ∃ q, 2 ^ y = q := ⟨_, rfl⟩
  rw [hq] at h ⊢
  rw [IntKind.wrap_i64]; omega
theorem or_wrap {S y : Nat} (hS : S < 512) (hy : y < 9) : Go.bits .or .i64 (S : Int) ((2 : Int) ^ y) = ((S ||| 2 ^ y : Nat) : Int) := by
  obtain ⟨e, h⟩ := pow_nine hy
  have h2 := or_int hS h
  have h3 : S ||| 2 ^ y < 2 ^ 9 := Nat.or_lt_two_pow hS h
  rw [e]
  unfold Go.bits
  show IntKind.i64.wrap (((BitVec.ofInt 64 (S : Int) ||| BitVec.ofInt 64 ((2 ^ y : Nat) : Int)).toNat : Nat) : Int) = _
  rw [h2, IntKind.wrap_i64]; omega
def WallsF (W : World) (base : Nat) (A : Option Addr) (L : List WallT) : Prop := Kd.F (Kd.slice 3 (Kd.int .i64)) W (fun k => base ≤ k) A L.length (L.map wallI)
theorem WallsF.at {W : World} {base : Nat} {A : Option Addr} {L : List WallT} (h : WallsF W base A L) {i : Nat} (hi : i < L.length) : ∃ ad A0 c0, A = some ad ∧ W.cell? (ad.add i) = some (.slice A0 4 c0) ∧ 4 ≤ c0 ∧ Kd.C (Kd.int .i64) W A0 4 (wallI L[i]) := by
  have hC := Kd.F_now h
  obtain ⟨ad, A0, c0, e, h1, h2, h3⟩ := L3.at_L2 hC (i : Int) (by omega) (by omega)
  have e2 : L3.rd_L2 (L.map wallI) (i : Int) = wallI L[i] := by
    unfold L3.rd_L2
    simp [List.getElem?_eq_getElem hi]
  rw [e2] at h1 h2 h3
  rw [Int.toNat_natCast] at h1
  exact ⟨ad, A0, c0, e, h1, h2, h3⟩
theorem WallsF.below {W W' : World} {base : Nat} {A : Option Addr} {L : List WallT} (h : WallsF W base A L) (hb : Below W.heap.size W W') : WallsF W' base A L := Kd.F_below h hb
theorem WallsF.far {W : World} {base : Nat} {A : Option Addr} {L : List WallT} (h : WallsF W base A L) {p : Addr} (hp : p.block < base) (u : Value) : WallsF (W.setCell p u) base A L := Kd.F_far h (fun k hk => by omega) u
def orderI (kind : Bool) : Int := if kind then 1 else 0
set_option maxRecDepth 100000 in
set_option maxHeartbeats 16000000 in
theorem l5Just_any (A : Option Addr) (cap : Nat) (p : List ByteArray) (hpl : planG p = true) (kind : Bool) (w : World) (hr0 : Kd.C Kd.string w A p.length p) (hc0 : p.length ≤ cap) :
    Calls Try.prog 187 #[.slice A p.length cap, .int .i64 (orderI kind)] w fun e w' => ∃ v0, e = .returned v0 ∧ Kd.R (Kd.int .i64) 3 w' w.heap.size (fun _ => True) v0 (justS p kind) ∧ Below w.heap.size w w' := by
  have HT := Aside0.mk (planTG hpl)
  have HFL := Aside0.mk (planFlat hpl)
  obtain ⟨kr, hkr⟩ := plan_rooms hpl
  obtain ⟨kw, hkw⟩ := (walls_f (planTG hpl)).ex
  rw [walls_same, walls_grid] at hkw
  have hbl := (planFlat hpl).few
  have HRM := Aside0.mk (fun W (hW : Below w.heap.size w W) => L2.spec_l1Rooms.calls kr A cap p _ W (Kd.C_below hr0 hW) hc0 hkr)
  have HWL := Aside0.mk (fun W (hW : Below w.heap.size w W) => L3.spec_l2Walls.calls kw A cap p _ W (Kd.C_below hr0 hW) hc0 hkw)
  have HR := Aside0.mk hr0
  obtain ⟨n, hn⟩ : ∃ n, (boxesP p).length = n := ⟨_, rfl⟩
  rw [hn] at HRM hbl
  have HN := Aside0.mk hn
  have mk1 : ∀ W : World, (Instr.makeSlice 37 (.int .i64 (n : Int)) (.int .i64 (n : Int))).run Try.prog W = .ok (.slice (some ⟨W.heap.size, 0, none⟩) n n) (W.alloc (.cells (madeCells #[.int .i64 0] n) 3)) :=
    print_make 37 3 .i64 8 Try.underlying37 (by kernel_rfl) (by omega) n (by omega)
  have n0 : (0 : Int) ≤ (n : Int) := by omega
  clear hr0 hkr hkw hn
  go_enter Try.func187, Try.ntmps187
  go_wp2_with fail
  refine (HRM.out w (Below.refl _ _)).mono ?_
  rintro e w1 ⟨rfl, hb1⟩
  go_wp2_with fail
  obtain ⟨w2, hw2⟩ : ∃ w2, w2 = w1.alloc (.cells (madeCells #[.int .i64 0] n) 3) := ⟨_, rfl⟩
  rw [← hw2]
  have HS2 : Aside0 (SetsW w2 w1.heap.size n (fun _ _ => false) ∧ Below w.heap.size w w2 ∧ w2.heap.size = w1.heap.size + 1 ∧ w.heap.size ≤ w1.heap.size) := ⟨by
    rw [hw2]
    refine ⟨?_, hb1.alloc hb1.size _, by simp, hb1.size⟩
    unfold SetsW
    rw [heap_alloc_new, setsL_none, made_rep]⟩
  obtain ⟨go_, hgo⟩ : ∃ g, w1.heap.size = g := ⟨_, rfl⟩
  rw [hgo] at HS2 ⊢
  clear hb1 hw2 hgo
  refine (HWL.out w2 HS2.out.2.1).mono ?_
  rintro e w3 ⟨v3, rfl, hs3, hb3⟩
  obtain ⟨Aw, cw, rfl⟩ := Kd.S_slice hs3
  have hWF : WallsF w3 (go_ + 1) Aw (wallsL (clP p) p.length (wdP p)) := by
    have := Kd.S_F (Kd.S_mono (Kd.S_bound hs3) (fun k hk => hk.2.1))
    rw [HS2.out.2.2.1, List.length_map] at this
    exact this
  rw [List.length_map]
  have hall : ∀ x ∈ wallsL (clP p) p.length (wdP p), _ := fun x hx => And.intro (wallsL_in hx) (side_rooms HFL.out hx)
  have HALL := Aside0.mk hall
  have hm72 := wallsL_len (clP p) HFL.out.high.2 HFL.out.wide.2
  have hset3 : SetsW w3 go_ n (fun _ _ => false) := (hb3.block go_ (by have := HS2.out.2.2.1; omega)).trans HS2.out.1
  have HVAL : Aside0 (justS p kind = setsL (justB (clP p) kind (wallsL (clP p) p.length (wdP p))) n) := ⟨by unfold justS; rw [HN.out]⟩
  obtain ⟨L, hL⟩ : ∃ L, wallsL (clP p) p.length (wdP p) = L := ⟨_, rfl⟩
  rw [hL] at hWF HALL hm72 HVAL ⊢
  obtain ⟨m, hm⟩ : ∃ m, L.length = m := ⟨_, rfl⟩
  rw [hm] at hm72 ⊢
  have HM := Aside0.mk hm
  have HI : Aside0 (SetsW w3 go_ n (justB (clP p) kind (L.take 0)) ∧ WallsF w3 (go_ + 1) Aw L ∧ Below w.heap.size w w3 ∧ go_ < w3.heap.size) := ⟨hset3, hWF, HS2.out.2.1.trans (hb3.mono HS2.out.2.1.size), by have := hb3.size; have := HS2.out.2.2.1; omega⟩
  have HGO : Aside0 (w.heap.size ≤ go_) := ⟨HS2.out.2.2.2⟩
  clear hs3 hb3 hWF hall hset3 hL hm HS2
  go_wp2_with fail
  go_loopg [7] m (fun gg i wr => ∃ k : Nat, i = .int .i64 k ∧ k ≤ m ∧ m - k ≤ gg ∧ Aside0 (SetsW wr go_ n (justB (clP p) kind (L.take k)) ∧ WallsF wr (go_ + 1) Aw L ∧ Below w.heap.size w wr ∧ go_ < wr.heap.size))
  case atStart => exact ⟨0, rfl, by omega, by omega, HI⟩
  case round =>
    obtain ⟨k, rfl, hk, hgk, HD⟩ := hrel
    obtain ⟨wo, rfl⟩ : ∃ wo : World, wo = wr := ⟨_, rfl⟩
    by_cases hlt : (k : Int) < (m : Int)
    · have HKM : Aside0 (k + 1 ≤ m) := ⟨by omega⟩
      have hkl : k < L.length := by rw [HM.out]; omega
      have k0 : (0 : Int) ≤ (k : Int) := by omega
      obtain ⟨ad, A0, c0, rfl, f1, f2, f3⟩ := HD.out.2.1.at hkl
      obtain ⟨a0, rfl, d0, d1, d2, d3⟩ := wall_at f3
      obtain ⟨⟨i1, i2, i3, i4⟩, s1, s2⟩ := HALL.out L[k] (List.getElem_mem hkl)
      have js := just_step (cl := clP p) kind hkl
      obtain ⟨x, hx⟩ : ∃ x, L[k] = x := ⟨_, rfl⟩
      rw [hx] at f3 d0 d1 d2 d3 i1 i2 i3 s1 s2 js
      have HF3 := Aside0.mk f3
      have HSD := Aside0.mk (fun W (hW : Below w.heap.size w W) (h3 : Kd.C (Kd.int .i64) W (some a0) 4 (wallI x)) => l2Sides_any A cap p HT.out x i1 i2 i3 W (Kd.C_below HR.out hW) hc0 (some a0) c0 h3 f2)
      by_cases hxk : x.1 = kind
      · have e0 : (if x.1 = true then (1 : Int) else 0) = orderI kind := by rw [hxk]; rfl
        rw [e0] at d0
        have e9 : (orderI kind != orderI kind) = false := by simp
        rw [if_pos hxk] at js
        have HJ := Aside0.mk js
        obtain ⟨XS, hXS⟩ : ∃ XS, Lib.compact (sideA (clP p) x) = XS := ⟨_, rfl⟩
        obtain ⟨YS, hYS⟩ : ∃ YS, Lib.compact (sideB (clP p) x) = YS := ⟨_, rfl⟩
        rw [hXS] at HSD HJ s1
        rw [hYS] at HSD HJ s2
        rw [HN.out] at s1 s2
        have HXR := Aside0.mk (And.intro s1 s2)
        have hxl : XS.length ≤ 6 ∧ YS.length ≤ 6 := by
          have u1 := compact_len (sideA (clP p) x)
          have u2 := compact_len (sideB (clP p) x)
          rw [hXS] at u1
          rw [hYS] at u2
          unfold sideA at u1
          unfold sideB at u2
          rw [List.length_map, List.length_range] at u1 u2
          have v1 := HFL.out.high
          have v2 := HFL.out.wide
          cases hq : x.1
          · rw [hq] at i3; simp only [Bool.false_eq_true, if_false] at i3; omega
          · rw [hq] at i3; simp only [if_true] at i3; omega
        obtain ⟨R0, hR0⟩ : ∃ R, justB (clP p) kind (L.take k) = R := ⟨_, rfl⟩
        have HD2 := HD.out
        rw [hR0] at HD2 HJ
        have HD2 := Aside0.mk HD2
        clear f3 js hXS hYS i1 i2 i3 i4 s1 s2 hR0 hx hxk e0
        go_wp2_with fail
        refine (HSD.out wo HD.out.2.2.1 HF3.out).mono ?_
        rintro e w5 ⟨⟨A1, c1, A2, c2, rfl, hO1, hO2⟩, hb5⟩
        obtain ⟨ga, rfl, a1, a2, a3⟩ := id hO1
        obtain ⟨gb, rfl, b1, b2, b3⟩ := id hO2
        have HI5 : Aside0 (SetsW w5 go_ n (addR R0 (XS.take 0) YS) ∧ WallsF w5 (go_ + 1) (some ad) L ∧ OwnI w5 (go_ + 1) (some ⟨ga, 0, none⟩) XS ∧ OwnI w5 (go_ + 1) (some ⟨gb, 0, none⟩) YS ∧ Below w.heap.size w w5 ∧ go_ < w5.heap.size) := ⟨by
          rw [List.take_zero, addR_nil]
          have hgo := HD2.out.2.2.2
          have hs5 := hb5.size
          refine ⟨(hb5.block go_ hgo).trans HD2.out.1, HD2.out.2.1.below hb5, ⟨ga, rfl, by omega, a2, a3⟩, ⟨gb, rfl, by omega, b2, b3⟩, HD2.out.2.2.1.trans (hb5.mono HD2.out.2.2.1.size), by omega⟩⟩
        clear hO1 hO2 hb5 a1 a2 a3 b1 b2 b3
        go_wp2_with fail
        go_loopg [10] XS.length (fun gg i wr' => ∃ k1 : Nat, i = .int .i64 k1 ∧ k1 ≤ XS.length ∧ XS.length - k1 ≤ gg ∧ Aside0 (SetsW wr' go_ n (addR R0 (XS.take k1) YS) ∧ WallsF wr' (go_ + 1) (some ad) L ∧ OwnI wr' (go_ + 1) (some ⟨ga, 0, none⟩) XS ∧ OwnI wr' (go_ + 1) (some ⟨gb, 0, none⟩) YS ∧ Below w.heap.size w wr' ∧ go_ < wr'.heap.size))
        case atStart => exact ⟨0, rfl, by omega, by omega, HI5⟩
        case round =>
          obtain ⟨k1, rfl, hk1, hg1, HE⟩ := hrel
          obtain ⟨wi, rfl⟩ : ∃ wi : World, wi = wr := ⟨_, rfl⟩
          by_cases hlt1 : (k1 : Int) < (XS.length : Int)
          · have hkx : k1 < XS.length := by omega
            obtain ⟨xa, hxa, exa⟩ := HXR.out.1 XS[k1] (List.getElem_mem hkx)
            have k10 : (0 : Int) ≤ (k1 : Int) := by omega
            have HT1 : Aside0 (XS.take (k1 + 1) = XS.take k1 ++ [(xa : Int)]) := ⟨by rw [List.take_succ_eq_append_getElem hkx, exa]⟩
            have HQ1 : Aside0 (∀ W, OwnI W (go_ + 1) (some ⟨ga, 0, none⟩) XS → W.cell? ⟨ga, k1, none⟩ = some (.int .i64 xa)) := ⟨fun W hW => by
              obtain ⟨gx, e, _, _, hc⟩ := hW
              injection e with e
              injection e with e
              subst e
              rw [hc k1 hkx, exa]⟩
            have HE2 : Aside0 (SetsW wi go_ n (addR (addR R0 (XS.take k1) YS) [(xa : Int)] (YS.take 0)) ∧ WallsF wi (go_ + 1) (some ad) L ∧ OwnI wi (go_ + 1) (some ⟨ga, 0, none⟩) XS ∧ OwnI wi (go_ + 1) (some ⟨gb, 0, none⟩) YS ∧ Below w.heap.size w wi ∧ go_ < wi.heap.size) := ⟨by rw [List.take_zero, addR_none]; exact HE.out⟩
            clear exa
            go_wp2_with fail
            go_loopg [11] YS.length (fun gg i wr' => ∃ k2 : Nat, i = .int .i64 k2 ∧ k2 ≤ YS.length ∧ YS.length - k2 ≤ gg ∧ Aside0 (SetsW wr' go_ n (addR (addR R0 (XS.take k1) YS) [(xa : Int)] (YS.take k2)) ∧ WallsF wr' (go_ + 1) (some ad) L ∧ OwnI wr' (go_ + 1) (some ⟨ga, 0, none⟩) XS ∧ OwnI wr' (go_ + 1) (some ⟨gb, 0, none⟩) YS ∧ Below w.heap.size w wr' ∧ go_ < wr'.heap.size))
            case atStart => exact ⟨0, rfl, by omega, by omega, HE2⟩
            case round =>
              obtain ⟨k2, rfl, hk2, hg2, HG⟩ := hrel
              by_cases hlt2 : (k2 : Int) < (YS.length : Int)
              · have hky : k2 < YS.length := by omega
                obtain ⟨yb, hyb, eyb⟩ := HXR.out.2 YS[k2] (List.getElem_mem hky)
                have q1 := HQ1.out wr HG.out.2.2.1
                have q2 : wr.cell? ⟨gb, k2, none⟩ = some (.int .i64 yb) := by
                  obtain ⟨gx, e, _, _, hc⟩ := HG.out.2.2.2.1
                  injection e with e
                  injection e with e
                  subst e
                  rw [hc k2 hky, eyb]
                have k20 : (0 : Int) ≤ (k2 : Int) := by omega
                obtain ⟨r2, r3⟩ := HG.out.1.at hxa
                obtain ⟨S, hS⟩ : ∃ S, bitsN (addR (addR R0 (XS.take k1) YS) [(xa : Int)] (YS.take k2) xa) n = S := ⟨_, rfl⟩
                have hS9 : S < 512 := by rw [← hS]; exact bitsN_small _ hbl
                rw [hS] at r2
                have HSS := Aside0.mk hS
                have xa0 : (0 : Int) ≤ (xa : Int) := by omega
                have xan : (xa : Int) < (n : Int) := by omega
                have yb0 : (0 : Int) ≤ (yb : Int) := by omega
                have HT2 : Aside0 (YS.take (k2 + 1) = YS.take k2 ++ [(yb : Int)]) := ⟨by rw [List.take_succ_eq_append_getElem hky, eyb]⟩
                have HST := Aside0.mk (HG.out.1.set hxa hyb)
                clear eyb hS
                go_wp2_with fail
                refine wp_still_tail 19 (by kernel_rfl) (by kernel_rfl) ?_
                simp only [List.take_succ_cons, List.take_zero, List.drop_succ_cons, List.drop_zero]
                iterate 16 (refine @wpStill_step _ _ _ _ _ _ _ ?_; intro K hK; go_simp; refine hK _ ?_; clear hK K)
                refine @wpStill_at _ _ _ _ _ _ _ (.int .i64 ((2 ^ yb : Nat) : Int)) ?_ ?_ ?_
                · simp only [Region.wanted]
                · go_simp
                  exact pow_wrap (by omega)
                refine @wpStill_at _ _ _ _ _ _ _ (.int .i64 ((S ||| 2 ^ yb : Nat) : Int)) ?_ ?_ ?_
                · simp only [Region.wanted]
                · go_simp
                  exact or_wrap hS9 (by omega)
                (refine @wpStill_step _ _ _ _ _ _ _ ?_; intro K hK; go_simp; refine hK _ ?_; clear hK K)
                refine @wpStill_nil _ _ _ _ _ ?_
                go_wp2_with fail
                go_roundg (YS.length - (k2 + 1))
                case measure => omega
                case rel =>
                  refine ⟨k2 + 1, by go_num, by omega, Nat.le_refl _, ⟨?_, HG.out.2.1.far (p := ⟨go_, xa, none⟩) (by show go_ < go_ + 1; omega) _, HG.out.2.2.1.setCell (p := ⟨go_, xa, none⟩) (by show go_ < go_ + 1; omega) _, HG.out.2.2.2.1.setCell (p := ⟨go_, xa, none⟩) (by show go_ < go_ + 1; omega) _, Below.setCell (p := ⟨go_, xa, none⟩) (pw_below_drewN HG.out.2.2.2.2.1 1) HGO.out _, by rw [World.size_setCell]; exact HG.out.2.2.2.2.2⟩⟩
                  rw [HT2.out, ← addR_setR]
                  have := HST.out
                  rw [HSS.out] at this
                  exact this
              · obtain rfl : k2 = YS.length := by omega
                go_wp2_with fail
                go_roundg (XS.length - (k1 + 1))
                case measure => omega
                case rel =>
                  refine ⟨k1 + 1, by go_num, by omega, Nat.le_refl _, ⟨?_, HG.out.2⟩⟩
                  rw [HT1.out, ← addR_more]
                  have := HG.out.1
                  rwa [List.take_length] at this
          · obtain rfl : k1 = XS.length := by omega
            go_wp2_with fail
            go_roundg (m - (k + 1))
            case measure => omega
            case rel =>
              refine ⟨k + 1, by go_num, HKM.out, Nat.le_refl _, ⟨?_, HE.out.2.1, HE.out.2.2.2.2⟩⟩
              rw [HJ.out]
              have := HE.out.1
              rwa [List.take_length] at this
      · have e0 : ((if x.1 = true then (1 : Int) else 0) != orderI kind) = true := by
          unfold orderI
          cases hq : x.1 <;> cases hw : kind
          · exact absurd (hq.trans hw.symm) hxk
          · rfl
          · rfl
          · exact absurd (hq.trans hw.symm) hxk
        obtain ⟨z, hz⟩ : ∃ z, (if x.1 = true then (1 : Int) else 0) = z := ⟨_, rfl⟩
        rw [hz] at d0 e0
        rw [if_neg hxk] at js
        have HJ := Aside0.mk js
        clear hz js f3 hx
        go_wp2_with fail
        go_roundg (m - (k + 1))
        case measure => omega
        case rel => exact ⟨k + 1, by go_num, HKM.out, Nat.le_refl _, ⟨by rw [HJ.out]; exact HD.out.1, HD.out.2⟩⟩
    · obtain rfl : k = m := by omega
      go_wp2_with fail
      go_ret
      refine ⟨_, rfl, ?_, HD.out.2.2.1⟩
      rw [HVAL.out]
      have h1 := HD.out.1
      rw [show L.take k = L by rw [← HM.out, List.take_length]] at h1
      refine Kd.R_of_own ?_ (fun _ _ => trivial)
      rw [setsL_len]
      refine ⟨by simp [encs, setsL], .inr ⟨go_, n, _, rfl, HGO.out, h1, Nat.le_refl _, by unfold maxLen; omega, by simp [setsL], ?_⟩⟩
      rw [Nat.mul_one]
      show List.take n ((setsL _ n).map (Value.int .i64)) = (setsL _ n).map (Value.int .i64)
      exact List.take_of_length_le (by rw [List.length_map, setsL_len]; exact Nat.le_refl _)
end Go.Proofs.Ytdhnjecbdclmaaa
