/- The reference's l2Sides: the rooms on both sides of a wall, by hand. -/
import Derived.Test.YtdhnjecbdclmaaaKLPartM
import Derived.Test.YtdhnjecbdclmaaaKLAlong
import Derived.Test.YtdhnjecbdclmaaaKLWaysPM
import Derived.StillTailTactics
namespace Go.Proofs.Ytdhnjecbdclmaaa
open Go.RowKit Go.Shelf Go.Proofs.YtdhnjecbdclmaaaW.PrintWords Go.Proofs.YtdhnjecbdclmaaaW.PrintMore
set_option linter.unusedVariables false
set_option linter.unusedSimpArgs false
theorem own_I {W : World} {base : Nat} {A : Option Addr} {n c : Nat} {xs : List Int} (h : W.ownsRow base 3 1 (.slice A n c) xs.length (nums .i64 xs)) (h0 : 0 < xs.length) : OwnI W base A xs := by
  obtain ⟨g, rfl, _, _, b1, s1, hH⟩ := own_holds h h0
  refine ⟨g, rfl, b1, s1, fun k hk => ?_⟩
  have := (hH k (by simpa using hk)).1
  rw [Nat.zero_add] at this
  rw [this]
  congr 2
  rw [getElem!_pos _ _ (by simpa using hk)]
  simp
theorem fold_len (l : List Int) : (l.foldl putL []).length ≤ l.length := by rw [putL_all]; exact compact_len l
theorem fold_pos {l : List Int} (h : l ≠ []) : 0 < (l.foldl putL []).length := by
  cases l with
  | nil => exact absurd rfl h
  | cons x l => exact List.length_pos_of_mem ((putL_mem x (x :: l) []).2 (.inr (.head _)))
theorem text_at {W : World} {A : Option Addr} {p : List ByteArray} {h wd : Nat} {cl : Nat → Nat → Int} (t : TG p h wd (gridOf cl 0 0)) (hr : Kd.C Kd.string W A p.length p) {i : Nat} (hi : i < h) : ∃ ad s, A = some ad ∧ W.cell? (ad.add i) = some (.string s) ∧ s.size = wd ∧ ∀ j, j < wd → ∀ h' : j < s.size, ((s[j]'h').toNat : Int) = 97 + cl i j ∧ 97 ≤ 97 + cl i j ∧ 97 + cl i j ≤ 122 := by
  obtain ⟨ad, e, hc⟩ := Kd.at_string hr (i : Int) (by omega) (by rw [t.len]; omega)
  rw [Int.toNat_natCast] at hc
  refine ⟨ad, _, e, hc, t.size i hi, fun j hj h' => ?_⟩
  have h1 := t.cell i j hi hj
  have h2 := t.let_ i j hi hj
  have h3 := bt_at (rdOf ByteArray.empty p (i : Int)) (j : Int) (by rw [Int.toNat_natCast]; exact h')
  simp only [Int.toNat_natCast] at h3
  unfold gridOf at h1 h2
  rw [Nat.zero_add, Nat.zero_add] at h1 h2
  exact ⟨h3.trans h1, h2.1, h2.2⟩
theorem wall_at {W : World} {AW : Option Addr} {x : WallT} (hW : Kd.C (Kd.int .i64) W AW 4 (wallI x)) : ∃ ad, AW = some ad ∧ W.cell? ad = some (.int .i64 (if x.1 then 1 else 0)) ∧ W.cell? ⟨ad.block, ad.off + 1, none⟩ = some (.int .i64 x.2.1) ∧ W.cell? ⟨ad.block, ad.off + 2, none⟩ = some (.int .i64 x.2.2.1) ∧ W.cell? ⟨ad.block, ad.off + 3, none⟩ = some (.int .i64 x.2.2.2) := by
  obtain ⟨ad, e, h0⟩ := Kd.at_int hW 0 (by omega) (by omega)
  obtain ⟨a1, e1, h1⟩ := Kd.at_int hW 1 (by omega) (by omega)
  obtain ⟨a2, e2, h2⟩ := Kd.at_int hW 2 (by omega) (by omega)
  obtain ⟨a3, e3, h3⟩ := Kd.at_int hW 3 (by omega) (by omega)
  rw [e] at e1 e2 e3
  injection e1 with e1
  injection e2 with e2
  injection e3 with e3
  subst e1 e2 e3
  exact ⟨ad, e, h0, h1, h2, h3⟩
set_option maxRecDepth 100000 in
set_option maxHeartbeats 16000000 in
theorem l2Sides_any (A : Option Addr) (cap : Nat) (p : List ByteArray) {h wd : Nat} {cl : Nat → Nat → Int} (t : TG p h wd (gridOf cl 0 0)) (x : WallT) (hl : 1 ≤ x.2.1 ∧ x.2.1 < if x.1 then h else wd) (h1 : 1 ≤ x.2.2.2) (h2 : x.2.2.1 + x.2.2.2 ≤ if x.1 then wd else h)
    (w : World) (hr0 : Kd.C Kd.string w A p.length p) (hc0 : p.length ≤ cap) (AW : Option Addr) (cw : Nat) (hW : Kd.C (Kd.int .i64) w AW 4 (wallI x)) (hcw : 4 ≤ cw) :
    Calls Try.prog 208 #[.slice A p.length cap, .slice AW 4 cw] w fun e w' => (∃ A1 c1 A2 c2, e = .returned (.tuple #[.slice A1 (Lib.compact (sideA cl x)).length c1, .slice A2 (Lib.compact (sideB cl x)).length c2]) ∧ OwnI w' w.heap.size A1 (Lib.compact (sideA cl x)) ∧ OwnI w' w.heap.size A2 (Lib.compact (sideB cl x))) ∧ Below w.heap.size w w' := by
  have HT := Aside0.mk t
  have HR := Aside0.mk hr0
  have HX : Aside0 (sideA cl x = sideAn cl x x.2.2.2 ∧ sideB cl x = sideBn cl x x.2.2.2) := ⟨rfl, rfl⟩
  have HWW := Aside0.mk (fun W (hb : Below w.heap.size w W) => wall_at (Kd.C_below hW hb))
  have hpl := t.len
  have hhi := t.high
  have hwi := t.wide
  obtain ⟨X, hX⟩ : ∃ X, x = X := ⟨_, rfl⟩
  obtain ⟨b, y1, y2, y3⟩ := x
  dsimp only at HX HWW hl h1 h2 ⊢
  have hle : y2 + y3 ≤ 6 := by
    cases b
    · simp only [Bool.false_eq_true, if_false] at h2; omega
    · simp only [if_true] at h2; omega
  rw [hX] at HX ⊢
  have HXX := Aside0.mk hX
  rw [hpl]
  rw [hpl] at hc0
  clear hX hr0 hW t hpl
  obtain ⟨W1, hW1⟩ : ∃ W1 : World, W1 = (w.alloc (.cells #[] 3)).alloc (.cells #[] 3) := ⟨_, rfl⟩
  have HB1 : Aside0 (Below w.heap.size w W1) := ⟨by rw [hW1]; exact ((Below.refl _ _).alloc (Nat.le_refl _) _).alloc (by simp) _⟩
  have HT0 : Aside0 (Two W1 w.heap.size (.slice (some ⟨w.heap.size, 0, none⟩) 0 0) (.slice (some ⟨w.heap.size + 1, 0, none⟩) 0 0) ((sideAn cl X 0).foldl putL []) ((sideBn cl X 0).foldl putL [])) := ⟨by
    have q1 : W1.heap[w.heap.size]? = some (.cells #[] 3 (0, 0)) := by rw [hW1, Below.heap_alloc _ _ _ (by simp)]; exact heap_alloc_new _ _
    have q2 : W1.heap[w.heap.size + 1]? = some (.cells #[] 3 (0, 0)) := by
      have := heap_alloc_new (w.alloc (.cells #[] 3)) (.cells #[] 3)
      rw [hW1]
      simpa using this
    refine ⟨⟨rfl, .inr ⟨w.heap.size, 0, #[], rfl, Nat.le_refl _, q1, Nat.le_refl _, by unfold maxLen; omega, rfl, rfl⟩⟩, ⟨rfl, .inr ⟨w.heap.size + 1, 0, #[], rfl, by omega, q2, Nat.le_refl _, by unfold maxLen; omega, rfl, rfl⟩⟩, fun j h1 h2 => ?_⟩
    injection h1 with h1
    injection h2 with h2
    have e1 : w.heap.size = j := h1
    have e2 : w.heap.size + 1 = j := h2
    omega⟩
  obtain ⟨ad, rfl, d0, d1, d2, d3⟩ := HWW.out W1 HB1.out
  cases b with
  | false =>
    simp only [Bool.false_eq_true, if_false] at hl h2 HWW d0
    go_enter Try.func208, Try.ntmps208
    rw [hW1] at d2
    go_wp2_with fail
    rw [← hW1]
    clear hW1 d0 d1 d2 d3
    go_loopw [6, 7, 8] (fun v u s wr => ∃ m : Nat, s = .int .i64 ((y2 : Int) + (m : Int)) ∧ m ≤ y3 ∧ Aside0 (Two wr w.heap.size v u ((sideAn cl X m).foldl putL []) ((sideBn cl X m).foldl putL []) ∧ Below w.heap.size w wr)) (fun _ _ s _ => (y2 + y3) - (intOf s).toNat)
    case atStart => exact ⟨0, by simp, by omega, ⟨HT0.out, HB1.out⟩⟩
    case round =>
      obtain ⟨m, rfl, hm, HD⟩ := hrel
      obtain ⟨ad', e', c0, c1, c2, c3⟩ := HWW.out wr HD.out.2
      injection e' with e'
      subst e'
      have v1 : IntKind.i64.wrap ((y2 : Int) + (y3 : Int)) = (y2 : Int) + (y3 : Int) := by rw [IntKind.wrap_i64]; omega
      by_cases hlt : (y2 : Int) + (m : Int) < (y2 : Int) + (y3 : Int)
      · have dl : decide ((y2 : Int) + (m : Int) < (y2 : Int) + (y3 : Int)) = true := decide_eq_true hlt
        have HSA := Aside0.mk (sideAn_succ cl X m)
        have HPA := Aside0.mk (fun (x : Int) W (hW : Below wr.heap.size wr W) => l2Put_any w.heap.size _ ((sideAn cl X m).foldl putL []) x W (pw_own_below HD.out.1.one hW) (by have := hW.size; have := HD.out.2.size; omega) (by have := fold_len (sideAn cl X m); rw [sideAn_len] at this; omega))
        have HSB := Aside0.mk (sideBn_succ cl X m)
        go_wp2_with fail
        go_quiet (fail)
        clear v1 dl
        go_wp2_with fail
        obtain ⟨apa, sa, eAa, ta, tsa, tba⟩ := text_at HT.out (Kd.C_below HR.out HD.out.2) (i := y2 + m) (by omega)
        have ua := fun h' => (tba (y1 - 1) (by omega) h').1
        have la := (tba (y1 - 1) (by omega) (by omega)).2
        obtain ⟨ca, hca⟩ : ∃ c, cl (y2 + m) (y1 - 1) = c := ⟨_, rfl⟩
        have HCa := Aside0.mk hca
        rw [hca] at ua la
        have va : IntKind.i64.wrap (97 + ca) = 97 + ca := by rw [IntKind.wrap_i64]; omega
        have wa : IntKind.i64.wrap (97 + ca - 97) = ca := by rw [IntKind.wrap_i64]; omega
        have xa : (y1 - 1) < sa.size := by omega
        have ya : (((y1 - 1) : Nat) : Int) < (sa.size : Int) := by omega
        have za : (y1 - 1) < wd := by omega
        clear tba hca
        subst eAa
        have e1 : ((y1 : Int) - 1) = ((y1 - 1 : Nat) : Int) := by omega
        have e2 : IntKind.i64.wrap ((y1 - 1 : Nat) : Int) = ((y1 - 1 : Nat) : Int) := by rw [IntKind.wrap_i64]; omega
        have n1 : (0 : Int) ≤ ((y1 - 1 : Nat) : Int) := by omega
        have n2 : (0 : Int) ≤ (y2 : Int) + (m : Int) := by omega
        have n4 : ((y2 : Int) + (m : Int)).toNat = y2 + m := by omega
        have n8 : (0 : Int) ≤ (y1 : Int) := by omega
        have n3 : (y2 : Int) + (m : Int) < (h : Int) := by omega
        refine wp_still_tail 12 (by kernel_rfl) (by kernel_rfl) ?_
        simp only [List.take_succ_cons, List.take_zero, List.drop_succ_cons, List.drop_zero]
        iterate 12 (refine @wpStill_step _ _ _ _ _ _ _ ?_; intro K hK; go_simp; refine hK _ ?_; clear hK K)
        refine @wpStill_nil _ _ _ _ _ ?_
        go_wp2_with fail
        refine Calls.mono (HPA.out _ _ ?hb1) ?_
        (case hb1 => repeat (first | exact Below.refl _ _ | apply pw_below_drewN))
        rintro e w3 ⟨v3, rfl, ho3, hg3, hat3⟩
        have HT3 := Aside0.mk (Two.grow (HD.out.1.below (by repeat (first | exact Below.refl _ _ | apply pw_below_drewN))) ho3 hg3 hat3)
        have HB3 : Aside0 (Below w.heap.size w w3) := ⟨Below.grown (by repeat (first | exact HD.out.2 | apply pw_below_drewN)) hg3 HD.out.2.size (fun k hk => own_base HD.out.1.one k hk)⟩
        have HPB := Aside0.mk (fun (x : Int) W (hW : Below w3.heap.size w3 W) => l2Put_any w.heap.size _ ((sideBn cl X m).foldl putL []) x W (pw_own_below HT3.out.two hW) (by have := hW.size; have := HB3.out.size; omega) (by have := fold_len (sideBn cl X m); rw [sideBn_len] at this; omega))
        clear ho3 hg3 hat3
        obtain ⟨ad3, e3, c0, c1, c2, c3⟩ := HWW.out w3 HB3.out
        injection e3 with e3
        subst e3
        obtain ⟨apb, sb, eAb, tb, tsb, tbb⟩ := text_at HT.out (Kd.C_below HR.out HB3.out) (i := y2 + m) (by omega)
        have ub := fun h' => (tbb (y1) (by omega) h').1
        have lb := (tbb (y1) (by omega) (by omega)).2
        obtain ⟨cb, hcb⟩ : ∃ c, cl (y2 + m) (y1) = c := ⟨_, rfl⟩
        have HCb := Aside0.mk hcb
        rw [hcb] at ub lb
        have vb : IntKind.i64.wrap (97 + cb) = 97 + cb := by rw [IntKind.wrap_i64]; omega
        have wb : IntKind.i64.wrap (97 + cb - 97) = cb := by rw [IntKind.wrap_i64]; omega
        have xb : (y1) < sb.size := by omega
        have yb : (((y1) : Nat) : Int) < (sb.size : Int) := by omega
        have zb : (y1) < wd := by omega
        clear tbb hcb
        injection eAb with eAb
        subst eAb
        go_wp2_with fail
        refine wp_still_tail 11 (by kernel_rfl) (by kernel_rfl) ?_
        simp only [List.take_succ_cons, List.take_zero, List.drop_succ_cons, List.drop_zero]
        iterate 11 (refine @wpStill_step _ _ _ _ _ _ _ ?_; intro K hK; go_simp; refine hK _ ?_; clear hK K)
        refine @wpStill_nil _ _ _ _ _ ?_
        go_wp2_with fail
        refine Calls.mono (HPB.out _ _ ?hb2) ?_
        (case hb2 => repeat (first | exact Below.refl _ _ | apply pw_below_drewN))
        rintro e w4 ⟨v4, rfl, ho4, hg4, hat4⟩
        have HT4 := Aside0.mk (Two.grow (HT3.out.swap.below (by repeat (first | exact Below.refl _ _ | apply pw_below_drewN))) ho4 hg4 hat4).swap
        have HB4 : Aside0 (Below w.heap.size w w4) := ⟨Below.grown (by repeat (first | exact HB3.out | apply pw_below_drewN)) hg4 HB3.out.size (fun k hk => own_base HT3.out.two k hk)⟩
        clear ho4 hg4 hat4
        clear e1 e2 va wa vb wb
        go_wp2_with fail
        go_roundw
        case rel =>
          refine ⟨m + 1, by go_num, by omega, ⟨?_, HB4.out⟩⟩
          rw [HSA.out, HSB.out, List.foldl_append, List.foldl_append, ← HXX.out]
          have := HT4.out
          rw [← HCa.out, ← HCb.out, ← HXX.out] at this
          exact this
        case measure => simp [intOf]; omega
      · obtain rfl : m = y3 := by omega
        have dl : decide ((y2 : Int) + (m : Int) < (y2 : Int) + (m : Int)) = false := decide_eq_false hlt
        obtain ⟨A1, n1, q1⟩ := own_slice HD.out.1.one
        obtain ⟨A2, n2, q2⟩ := own_slice HD.out.1.two
        subst q1 q2
        go_wp2_with fail
        go_quiet (fail)
        clear v1 dl
        go_wp2_with fail
        go_ret2
        have i1 := own_I HD.out.1.one (fold_pos (fun e => by have := sideAn_len cl X m; rw [e] at this; simp at this; omega))
        have i2 := own_I HD.out.1.two (fold_pos (fun e => by have := sideBn_len cl X m; rw [e] at this; simp at this; omega))
        rw [putL_all] at i1 i2
        rw [HX.out.1, HX.out.2]
        refine ⟨⟨A1, n1, A2, n2, by rw [← putL_all, ← putL_all]; rfl, i1.move (by first | exact Nat.le_refl _ | simp) (fun g _ _ => rfl), i2.move (by first | exact Nat.le_refl _ | simp) (fun g _ _ => rfl)⟩, by repeat (first | exact HD.out.2 | apply pw_below_drewN)⟩
  | true =>
    simp only [if_true] at hl h2 HWW d0
    obtain ⟨d, rfl⟩ : ∃ d, y1 = d + 1 := ⟨y1 - 1, by omega⟩
    go_enter Try.func208, Try.ntmps208
    rw [hW1] at d2
    go_wp2_with fail
    rw [← hW1]
    clear hW1 d0 d1 d2 d3
    go_loopw [6, 7, 8] (fun v u s wr => ∃ m : Nat, s = .int .i64 ((y2 : Int) + (m : Int)) ∧ m ≤ y3 ∧ Aside0 (Two wr w.heap.size v u ((sideAn cl X m).foldl putL []) ((sideBn cl X m).foldl putL []) ∧ Below w.heap.size w wr)) (fun _ _ s _ => (y2 + y3) - (intOf s).toNat)
    case atStart => exact ⟨0, by simp, by omega, ⟨HT0.out, HB1.out⟩⟩
    case round =>
      obtain ⟨m, rfl, hm, HD⟩ := hrel
      obtain ⟨ad', e', c0, c1, c2, c3⟩ := HWW.out wr HD.out.2
      injection e' with e'
      subst e'
      have v1 : IntKind.i64.wrap ((y2 : Int) + (y3 : Int)) = (y2 : Int) + (y3 : Int) := by rw [IntKind.wrap_i64]; omega
      by_cases hlt : (y2 : Int) + (m : Int) < (y2 : Int) + (y3 : Int)
      · have dl : decide ((y2 : Int) + (m : Int) < (y2 : Int) + (y3 : Int)) = true := decide_eq_true hlt
        have HSA := Aside0.mk (sideAn_succ cl X m)
        have HPA := Aside0.mk (fun (x : Int) W (hW : Below wr.heap.size wr W) => l2Put_any w.heap.size _ ((sideAn cl X m).foldl putL []) x W (pw_own_below HD.out.1.one hW) (by have := hW.size; have := HD.out.2.size; omega) (by have := fold_len (sideAn cl X m); rw [sideAn_len] at this; omega))
        have HSB := Aside0.mk (sideBn_succ cl X m)
        go_wp2_with fail
        go_quiet (fail)
        clear v1 dl
        go_wp2_with fail
        obtain ⟨apa, sa, eAa, ta, tsa, tba⟩ := text_at HT.out (Kd.C_below HR.out HD.out.2) (i := d) (by omega)
        have ua := fun h' => (tba (y2 + m) (by omega) h').1
        have la := (tba (y2 + m) (by omega) (by omega)).2
        obtain ⟨ca, hca⟩ : ∃ c, cl (d) (y2 + m) = c := ⟨_, rfl⟩
        have HCa := Aside0.mk hca
        rw [hca] at ua la
        have va : IntKind.i64.wrap (97 + ca) = 97 + ca := by rw [IntKind.wrap_i64]; omega
        have wa : IntKind.i64.wrap (97 + ca - 97) = ca := by rw [IntKind.wrap_i64]; omega
        have xa : (y2 + m) < sa.size := by omega
        have ya : (((y2 + m) : Nat) : Int) < (sa.size : Int) := by omega
        have za : (y2 + m) < wd := by omega
        clear tba hca
        subst eAa
        have m1 : (0 : Int) ≤ (d : Int) := by omega
        have m2 : (d : Int) < (h : Int) := by omega
        have m8 : d < h := by omega
        have m9 : d + 1 < h := by omega
        have m3 : ((d + 1 : Nat) : Int) - 1 = (d : Int) := by omega
        have m5 : (d : Int) + 1 < (h : Int) := by omega
        have m6 : (0 : Int) ≤ (d : Int) + 1 := by omega
        have m7 : ((d : Int) + 1).toNat = d + 1 := by omega
        have m4 : (y2 : Int) + (m : Int) < (sa.size : Int) := by omega
        have n2 : (0 : Int) ≤ (y2 : Int) + (m : Int) := by omega
        have n4 : ((y2 : Int) + (m : Int)).toNat = y2 + m := by omega
        have n3 : (y2 : Int) + (m : Int) < (wd : Int) := by omega
        go_wp2_with fail
        try (go_simp; go_wp2_with fail)
        refine Calls.mono (HPA.out _ _ ?hb1) ?_
        (case hb1 => repeat (first | exact Below.refl _ _ | apply pw_below_drewN))
        rintro e w3 ⟨v3, rfl, ho3, hg3, hat3⟩
        have HT3 := Aside0.mk (Two.grow (HD.out.1.below (by repeat (first | exact Below.refl _ _ | apply pw_below_drewN))) ho3 hg3 hat3)
        have HB3 : Aside0 (Below w.heap.size w w3) := ⟨Below.grown (by repeat (first | exact HD.out.2 | apply pw_below_drewN)) hg3 HD.out.2.size (fun k hk => own_base HD.out.1.one k hk)⟩
        have HPB := Aside0.mk (fun (x : Int) W (hW : Below w3.heap.size w3 W) => l2Put_any w.heap.size _ ((sideBn cl X m).foldl putL []) x W (pw_own_below HT3.out.two hW) (by have := hW.size; have := HB3.out.size; omega) (by have := fold_len (sideBn cl X m); rw [sideBn_len] at this; omega))
        clear ho3 hg3 hat3
        obtain ⟨ad3, e3, c0, c1, c2, c3⟩ := HWW.out w3 HB3.out
        injection e3 with e3
        subst e3
        obtain ⟨apb, sb, eAb, tb, tsb, tbb⟩ := text_at HT.out (Kd.C_below HR.out HB3.out) (i := d + 1) (by omega)
        have ub := fun h' => (tbb (y2 + m) (by omega) h').1
        have lb := (tbb (y2 + m) (by omega) (by omega)).2
        obtain ⟨cb, hcb⟩ : ∃ c, cl (d + 1) (y2 + m) = c := ⟨_, rfl⟩
        have HCb := Aside0.mk hcb
        rw [hcb] at ub lb
        have vb : IntKind.i64.wrap (97 + cb) = 97 + cb := by rw [IntKind.wrap_i64]; omega
        have wb : IntKind.i64.wrap (97 + cb - 97) = cb := by rw [IntKind.wrap_i64]; omega
        have xb : (y2 + m) < sb.size := by omega
        have yb : (((y2 + m) : Nat) : Int) < (sb.size : Int) := by omega
        have zb : (y2 + m) < wd := by omega
        clear tbb hcb
        injection eAb with eAb
        subst eAb
        have tb2 : w3.cell? (apa.add ((d : Int) + 1).toNat) = some (.string sb) := by rw [m7]; exact tb
        have tb3 : w3.cell? ⟨apa.block, apa.off + (d + 1), none⟩ = some (.string sb) := by
          have := tb
          unfold Addr.add at this
          rwa [if_neg (by omega)] at this
        have n9 : (y2 : Int) + (m : Int) < (sb.size : Int) := by omega
        go_wp2_with fail
        try (go_simp; go_wp2_with fail)
        refine Calls.mono (HPB.out _ _ ?hb2) ?_
        (case hb2 => repeat (first | exact Below.refl _ _ | apply pw_below_drewN))
        rintro e w4 ⟨v4, rfl, ho4, hg4, hat4⟩
        have HT4 := Aside0.mk (Two.grow (HT3.out.swap.below (by repeat (first | exact Below.refl _ _ | apply pw_below_drewN))) ho4 hg4 hat4).swap
        have HB4 : Aside0 (Below w.heap.size w w4) := ⟨Below.grown (by repeat (first | exact HB3.out | apply pw_below_drewN)) hg4 HB3.out.size (fun k hk => own_base HT3.out.two k hk)⟩
        clear ho4 hg4 hat4
        clear va wa vb wb
        go_wp2_with fail
        go_roundw
        case rel =>
          refine ⟨m + 1, by go_num, by omega, ⟨?_, HB4.out⟩⟩
          rw [HSA.out, HSB.out, List.foldl_append, List.foldl_append, ← HXX.out]
          have := HT4.out
          rw [← HCa.out, ← HCb.out, ← HXX.out] at this
          exact this
        case measure => simp [intOf]; omega
      · obtain rfl : m = y3 := by omega
        have dl : decide ((y2 : Int) + (m : Int) < (y2 : Int) + (m : Int)) = false := decide_eq_false hlt
        obtain ⟨A1, n1, q1⟩ := own_slice HD.out.1.one
        obtain ⟨A2, n2, q2⟩ := own_slice HD.out.1.two
        subst q1 q2
        go_wp2_with fail
        go_quiet (fail)
        clear v1 dl
        go_wp2_with fail
        go_ret2
        have i1 := own_I HD.out.1.one (fold_pos (fun e => by have := sideAn_len cl X m; rw [e] at this; simp at this; omega))
        have i2 := own_I HD.out.1.two (fold_pos (fun e => by have := sideBn_len cl X m; rw [e] at this; simp at this; omega))
        rw [putL_all] at i1 i2
        rw [HX.out.1, HX.out.2]
        refine ⟨⟨A1, n1, A2, n2, by rw [← putL_all, ← putL_all]; rfl, i1.move (by first | exact Nat.le_refl _ | simp) (fun g _ _ => rfl), i2.move (by first | exact Nat.le_refl _ | simp) (fun g _ _ => rfl)⟩, by repeat (first | exact HD.out.2 | apply pw_below_drewN)⟩
end Go.Proofs.Ytdhnjecbdclmaaa
