-- Written by a program of this session's (gprint, out of Lean's own print of the translation); checked by Lean.
import Derived.Test.YtbpppchkgjcahaaKAL11x0
namespace Go.Proofs.Ytbpppchkgjcahaa.L11
noncomputable section
open Go.RowKit Go.Proofs.YtbpppchkgjcahaaW.PrintWords Go.Proofs.YtbpppchkgjcahaaW.PrintLast Go.Proofs.YtbpppchkgjcahaaW.PrintMore
attribute [local go_sem] max2_int min2_int max_two min_two max_three min_three max_four min_four
set_option linter.unusedVariables false
set_option linter.unusedSimpArgs false
def spec_l5Plain.f (l0 : List ByteArray) : Option (Bool) := (spec_WallPlain.f l0).bind fun t101 => (some t101)
set_option maxHeartbeats 8000000 in
set_option maxRecDepth 100000 in
theorem spec_l5Plain.calls (A0 : Option Addr) (c0 : Nat) (l0 : List ByteArray) (r : Bool) (w : World) (hr0 : Kd.C Kd.string w A0 l0.length l0) (hc0 : l0.length ≤ c0) (h : spec_l5Plain.f l0 = some r) :
  Calls Try.prog 63 #[.slice A0 l0.length c0] w fun e w' => e = .returned (.bool r) ∧ Below w.heap.size w w' := by
 have HR0 := Aside0.mk hr0
 have HC0 := Aside0.mk hc0
 clear hr0 hc0
 have HB := Aside0.mk (Below.refl w.heap.size w)
 have H : ((spec_WallPlain.f l0).bind fun t101 => (some t101)) = some r := h
 clear h
 replace H := Option.bind_eq_some_iff.mp H
 obtain ⟨t101, A20, H⟩ := H
 replace H : (some t101) = some r := H
 have A2 := Aside0.mk A20
 clear A20
 obtain rfl := Option.some.inj H
 go_enter Try.func63, Try.ntmps63
 go_wp2_with (first | ((with_reducible refine gate_callee (f := 117) rfl ?_); refine goesL_ (some 4) rfl rfl Try.func117 (by kernel_rfl) rfl #[.slice A0 l0.length c0] rfl (by (try simp only [List.map_toArray, List.map_cons, List.map_nil]); first | done | rfl | (simp only [List.length_drop, List.length_take]; rfl)) ?_; (with_reducible refine (spec_WallPlain.calls _ _ l0 t101 _ ?side1 ?side2 A2.out).mono ?_); (case side1 => repeat (first | exact HR0.out | (with_reducible refine Kd.C_alloc ?_ _) | (with_reducible refine Kd.C_drewN ?_ _) | (with_reducible refine Kd.C_drew ?_))); (case side2 => exact HC0.out); rintro e w3 ⟨rfl, hb⟩; refine ⟨_, rfl, ?_⟩; have n0_ := Aside0.mk (below_step (by repeat (first | (with_reducible first | exact HB.out | apply below_alloc | apply pw_below_drewN | apply below_drew1) | exact HB.out)) hb); clear HB; have HB := n0_; clear n0_; (try clear hb); (try clear hb2); (try clear hk); (try clear hi)))
 go_ret
 exact ⟨by first | rfl | (simp [errW_none, errW_some] <;> rfl) | (simp [*, errW_none, errW_some] <;> rfl), by repeat (first | (with_reducible first | exact HB.out | apply below_alloc | apply pw_below_drewN | apply below_drew1) | exact HB.out)⟩
def spec_l11Cut.f : Nat → List ByteArray → Option (ByteArray)
 | 0, _ => none
 | k + 1, l0 => (spec_l3One.f l0).bind fun t102 => (if t102 = true then (some (⟨#[111]⟩ : ByteArray)) else ((spec_l3Cut.f l0).bind fun bt103 => ((spec_l3Parts.f l0 bt103.1 bt103.2).bind fun bt105 => ((spec_l11Cut.f k bt105.1).bind fun t111 => (if 1 + t111.size ≤ 9223372036854775807 then (if 0 ≤ bt103.1 then (if bt103.1 ≤ (wrap64 (bt103.1 + 1)) then (if (wrap64 (bt103.1 + 1)) ≤ 2 then (if ((⟨#[40]⟩ : ByteArray) ++ t111).size + ((⟨#[124, 45]⟩ : ByteArray).extract (bt103.1 : Int).toNat ((wrap64 (bt103.1 + 1)) : Int).toNat).size ≤ 9223372036854775807 then ((spec_l11Cut.f k bt105.2).bind fun t112 => (if (((⟨#[40]⟩ : ByteArray) ++ t111) ++ ((⟨#[124, 45]⟩ : ByteArray).extract (bt103.1 : Int).toNat ((wrap64 (bt103.1 + 1)) : Int).toNat)).size + t112.size ≤ 9223372036854775807 then (if ((((⟨#[40]⟩ : ByteArray) ++ t111) ++ ((⟨#[124, 45]⟩ : ByteArray).extract (bt103.1 : Int).toNat ((wrap64 (bt103.1 + 1)) : Int).toNat)) ++ t112).size + 1 ≤ 9223372036854775807 then (some (((((⟨#[40]⟩ : ByteArray) ++ t111) ++ ((⟨#[124, 45]⟩ : ByteArray).extract (bt103.1 : Int).toNat ((wrap64 (bt103.1 + 1)) : Int).toNat)) ++ t112) ++ (⟨#[41]⟩ : ByteArray))) else (none)) else (none))) else (none)) else (none)) else (none)) else (none)) else (none))))))
theorem spec_l11Cut.mono_l : ∀ k, (∀ y0, LeO (spec_l11Cut.f k y0) (spec_l11Cut.f (k + 1) y0))
 | 0 => fun _ r h => by simp [spec_l11Cut.f] at h
 | k + 1 => by
  have ih0 := spec_l11Cut.mono_l k
  ·
   intro y0
   unfold spec_l11Cut.f
   repeat' first
   | (with_reducible exact ih0 _)
   | (with_reducible exact LeO.refl _)
   | (with_reducible exact LeO.none _)
   | (with_reducible refine LeO.ite ?_ ?_)
   | (with_reducible refine LeO.bind ?_ (fun _ => ?_))
   | exact ih0 _
   | exact LeO.none _
   | refine LeO.ite ?_ ?_
   | refine LeO.bind ?_ (fun _ => ?_)
theorem spec_l11Cut.mono : ∀ a0 k, LeO (spec_l11Cut.f k a0) (spec_l11Cut.f (k + 1) a0) := by
 intro a0 k
 have ih0 := spec_l11Cut.mono_l k
 exact ih0 a0
def spec_l11Cut.T5 : Bool × List (List Nat × List Nat) := (true, [([], []), ([0], [0]), ([1], [1]), ([], []), ([], []), ([4], [4]), ([3, 5], [3, 5]), ([2, 6], [2, 6]), ([], []), ([8, 1], [8]), ([7, 9], [7, 9]), ([10], [10]), ([11, 9, 0, 1, 2, 3, 4, 5, 6, 7, 8, 9, 10, 11], [11])])
def spec_l11Cut.B5 : List Nat := [0, 1, 3, 0, 0, 16, 56, 127, 0, 259, 1023, 2047, 4095]
theorem spec_l11Cut.tab5 : rtab .any (opsOf Try.f66 5) = spec_l11Cut.T5 := by kernel_rfl
theorem spec_l11Cut.bits5 : waitsOk spec_l11Cut.T5.2 spec_l11Cut.B5 = true := by kernel_rfl
set_option maxHeartbeats 8000000 in
set_option maxRecDepth 100000 in
theorem spec_l11Cut.calls (k : Nat) : ∀ (A0 : Option Addr) (c0 : Nat) (l0 : List ByteArray) (r : ByteArray) (w : World) (hr0 : Kd.C Kd.string w A0 l0.length l0) (hc0 : l0.length ≤ c0) (h : spec_l11Cut.f k l0 = some r),
  Calls Try.prog 66 #[.slice A0 l0.length c0] w fun e w' => e = .returned (.string r) ∧ Below w.heap.size w w' := by
 induction k using Nat.strongRecOn with
 | _ k ih =>
 intro A0 c0 l0 r w hr0 hc0 h
 cases k with
 | zero => exact absurd h (by simp [spec_l11Cut.f])
 | succ k =>
 simp only [spec_l11Cut.f] at h
 have HR0 := Aside0.mk hr0
 have HC0 := Aside0.mk hc0
 clear hr0 hc0
 have HB := Aside0.mk (Below.refl w.heap.size w)
 have H : ((spec_l3One.f l0).bind fun t102 => (if t102 = true then (some (⟨#[111]⟩ : ByteArray)) else ((spec_l3Cut.f l0).bind fun bt103 => ((spec_l3Parts.f l0 bt103.1 bt103.2).bind fun bt105 => ((spec_l11Cut.f k bt105.1).bind fun t111 => (if 1 + t111.size ≤ 9223372036854775807 then (if 0 ≤ bt103.1 then (if bt103.1 ≤ (wrap64 (bt103.1 + 1)) then (if (wrap64 (bt103.1 + 1)) ≤ 2 then (if ((⟨#[40]⟩ : ByteArray) ++ t111).size + ((⟨#[124, 45]⟩ : ByteArray).extract (bt103.1 : Int).toNat ((wrap64 (bt103.1 + 1)) : Int).toNat).size ≤ 9223372036854775807 then ((spec_l11Cut.f k bt105.2).bind fun t112 => (if (((⟨#[40]⟩ : ByteArray) ++ t111) ++ ((⟨#[124, 45]⟩ : ByteArray).extract (bt103.1 : Int).toNat ((wrap64 (bt103.1 + 1)) : Int).toNat)).size + t112.size ≤ 9223372036854775807 then (if ((((⟨#[40]⟩ : ByteArray) ++ t111) ++ ((⟨#[124, 45]⟩ : ByteArray).extract (bt103.1 : Int).toNat ((wrap64 (bt103.1 + 1)) : Int).toNat)) ++ t112).size + 1 ≤ 9223372036854775807 then (some (((((⟨#[40]⟩ : ByteArray) ++ t111) ++ ((⟨#[124, 45]⟩ : ByteArray).extract (bt103.1 : Int).toNat ((wrap64 (bt103.1 + 1)) : Int).toNat)) ++ t112) ++ (⟨#[41]⟩ : ByteArray))) else (none)) else (none))) else (none)) else (none)) else (none)) else (none)) else (none))))))) = some r := h
 clear h
 replace H := Option.bind_eq_some_iff.mp H
 obtain ⟨t102, A20, H⟩ := H
 replace H : (if t102 = true then (some (⟨#[111]⟩ : ByteArray)) else ((spec_l3Cut.f l0).bind fun bt103 => ((spec_l3Parts.f l0 bt103.1 bt103.2).bind fun bt105 => ((spec_l11Cut.f k bt105.1).bind fun t111 => (if 1 + t111.size ≤ 9223372036854775807 then (if 0 ≤ bt103.1 then (if bt103.1 ≤ (wrap64 (bt103.1 + 1)) then (if (wrap64 (bt103.1 + 1)) ≤ 2 then (if ((⟨#[40]⟩ : ByteArray) ++ t111).size + ((⟨#[124, 45]⟩ : ByteArray).extract (bt103.1 : Int).toNat ((wrap64 (bt103.1 + 1)) : Int).toNat).size ≤ 9223372036854775807 then ((spec_l11Cut.f k bt105.2).bind fun t112 => (if (((⟨#[40]⟩ : ByteArray) ++ t111) ++ ((⟨#[124, 45]⟩ : ByteArray).extract (bt103.1 : Int).toNat ((wrap64 (bt103.1 + 1)) : Int).toNat)).size + t112.size ≤ 9223372036854775807 then (if ((((⟨#[40]⟩ : ByteArray) ++ t111) ++ ((⟨#[124, 45]⟩ : ByteArray).extract (bt103.1 : Int).toNat ((wrap64 (bt103.1 + 1)) : Int).toNat)) ++ t112).size + 1 ≤ 9223372036854775807 then (some (((((⟨#[40]⟩ : ByteArray) ++ t111) ++ ((⟨#[124, 45]⟩ : ByteArray).extract (bt103.1 : Int).toNat ((wrap64 (bt103.1 + 1)) : Int).toNat)) ++ t112) ++ (⟨#[41]⟩ : ByteArray))) else (none)) else (none))) else (none)) else (none)) else (none)) else (none)) else (none)))))) = some r := H
 have A2 := Aside0.mk A20
 clear A20
 by_cases c3 : t102 = true
 ·
  subst c3
  have H1 : (some (⟨#[111]⟩ : ByteArray)) = some r := by rw [if_pos rfl] at H; exact H
  clear H
  have H := H1
  clear H1
  obtain rfl := Option.some.inj H
  go_enter Try.func66, Try.ntmps66
  go_wp2_with (first | ((with_reducible refine gate_callee (f := 119) rfl ?_); refine goesL_ (some 8) rfl rfl Try.func119 (by kernel_rfl) rfl #[.slice A0 l0.length c0] rfl (by (try simp only [List.map_toArray, List.map_cons, List.map_nil]); first | done | rfl | (simp only [List.length_drop, List.length_take]; rfl)) ?_; (with_reducible refine (spec_l3One.calls _ _ l0 true _ ?side1 ?side2 A2.out).mono ?_); (case side1 => repeat (first | exact HR0.out | (with_reducible refine Kd.C_alloc ?_ _) | (with_reducible refine Kd.C_drewN ?_ _) | (with_reducible refine Kd.C_drew ?_))); (case side2 => exact HC0.out); rintro e w4 ⟨rfl, hb⟩; refine ⟨_, rfl, ?_⟩; have n0_ := Aside0.mk (below_step (by repeat (first | (with_reducible first | exact HB.out | apply below_alloc | apply pw_below_drewN | apply below_drew1) | exact HB.out)) hb); clear HB; have HB := n0_; clear n0_; (try clear hb); (try clear hb2); (try clear hk); (try clear hi)))
  go_ret
  exact ⟨by first | rfl | (simp [errW_none, errW_some] <;> rfl) | (simp [*, errW_none, errW_some] <;> rfl), by repeat (first | (with_reducible first | exact HB.out | apply below_alloc | apply pw_below_drewN | apply below_drew1) | exact HB.out)⟩
 ·
  replace c3 := Bool.eq_false_iff.mpr c3
  subst c3
  have H1 : ((spec_l3Cut.f l0).bind fun bt103 => ((spec_l3Parts.f l0 bt103.1 bt103.2).bind fun bt105 => ((spec_l11Cut.f k bt105.1).bind fun t111 => (if 1 + t111.size ≤ 9223372036854775807 then (if 0 ≤ bt103.1 then (if bt103.1 ≤ (wrap64 (bt103.1 + 1)) then (if (wrap64 (bt103.1 + 1)) ≤ 2 then (if ((⟨#[40]⟩ : ByteArray) ++ t111).size + ((⟨#[124, 45]⟩ : ByteArray).extract (bt103.1 : Int).toNat ((wrap64 (bt103.1 + 1)) : Int).toNat).size ≤ 9223372036854775807 then ((spec_l11Cut.f k bt105.2).bind fun t112 => (if (((⟨#[40]⟩ : ByteArray) ++ t111) ++ ((⟨#[124, 45]⟩ : ByteArray).extract (bt103.1 : Int).toNat ((wrap64 (bt103.1 + 1)) : Int).toNat)).size + t112.size ≤ 9223372036854775807 then (if ((((⟨#[40]⟩ : ByteArray) ++ t111) ++ ((⟨#[124, 45]⟩ : ByteArray).extract (bt103.1 : Int).toNat ((wrap64 (bt103.1 + 1)) : Int).toNat)) ++ t112).size + 1 ≤ 9223372036854775807 then (some (((((⟨#[40]⟩ : ByteArray) ++ t111) ++ ((⟨#[124, 45]⟩ : ByteArray).extract (bt103.1 : Int).toNat ((wrap64 (bt103.1 + 1)) : Int).toNat)) ++ t112) ++ (⟨#[41]⟩ : ByteArray))) else (none)) else (none))) else (none)) else (none)) else (none)) else (none)) else (none))))) = some r := by rw [if_neg (show ¬ (false = true) by decide)] at H; exact H
  clear H
  have H := H1
  clear H1
  replace H := Option.bind_eq_some_iff.mp H
  obtain ⟨⟨t103, t104⟩, A50, H⟩ := H
  replace H : ((spec_l3Parts.f l0 t103 t104).bind fun bt105 => ((spec_l11Cut.f k bt105.1).bind fun t111 => (if 1 + t111.size ≤ 9223372036854775807 then (if 0 ≤ t103 then (if t103 ≤ (wrap64 (t103 + 1)) then (if (wrap64 (t103 + 1)) ≤ 2 then (if ((⟨#[40]⟩ : ByteArray) ++ t111).size + ((⟨#[124, 45]⟩ : ByteArray).extract (t103 : Int).toNat ((wrap64 (t103 + 1)) : Int).toNat).size ≤ 9223372036854775807 then ((spec_l11Cut.f k bt105.2).bind fun t112 => (if (((⟨#[40]⟩ : ByteArray) ++ t111) ++ ((⟨#[124, 45]⟩ : ByteArray).extract (t103 : Int).toNat ((wrap64 (t103 + 1)) : Int).toNat)).size + t112.size ≤ 9223372036854775807 then (if ((((⟨#[40]⟩ : ByteArray) ++ t111) ++ ((⟨#[124, 45]⟩ : ByteArray).extract (t103 : Int).toNat ((wrap64 (t103 + 1)) : Int).toNat)) ++ t112).size + 1 ≤ 9223372036854775807 then (some (((((⟨#[40]⟩ : ByteArray) ++ t111) ++ ((⟨#[124, 45]⟩ : ByteArray).extract (t103 : Int).toNat ((wrap64 (t103 + 1)) : Int).toNat)) ++ t112) ++ (⟨#[41]⟩ : ByteArray))) else (none)) else (none))) else (none)) else (none)) else (none)) else (none)) else (none)))) = some r := H
  have A5 := Aside0.mk A50
  clear A50
  replace H := Option.bind_eq_some_iff.mp H
  obtain ⟨⟨t105, t106⟩, A60, H⟩ := H
  replace H : ((spec_l11Cut.f k t105).bind fun t111 => (if 1 + t111.size ≤ 9223372036854775807 then (if 0 ≤ t103 then (if t103 ≤ (wrap64 (t103 + 1)) then (if (wrap64 (t103 + 1)) ≤ 2 then (if ((⟨#[40]⟩ : ByteArray) ++ t111).size + ((⟨#[124, 45]⟩ : ByteArray).extract (t103 : Int).toNat ((wrap64 (t103 + 1)) : Int).toNat).size ≤ 9223372036854775807 then ((spec_l11Cut.f k t106).bind fun t112 => (if (((⟨#[40]⟩ : ByteArray) ++ t111) ++ ((⟨#[124, 45]⟩ : ByteArray).extract (t103 : Int).toNat ((wrap64 (t103 + 1)) : Int).toNat)).size + t112.size ≤ 9223372036854775807 then (if ((((⟨#[40]⟩ : ByteArray) ++ t111) ++ ((⟨#[124, 45]⟩ : ByteArray).extract (t103 : Int).toNat ((wrap64 (t103 + 1)) : Int).toNat)) ++ t112).size + 1 ≤ 9223372036854775807 then (some (((((⟨#[40]⟩ : ByteArray) ++ t111) ++ ((⟨#[124, 45]⟩ : ByteArray).extract (t103 : Int).toNat ((wrap64 (t103 + 1)) : Int).toNat)) ++ t112) ++ (⟨#[41]⟩ : ByteArray))) else (none)) else (none))) else (none)) else (none)) else (none)) else (none)) else (none))) = some r := H
  have A6 := Aside0.mk A60
  clear A60
  replace H := Option.bind_eq_some_iff.mp H
  obtain ⟨t111, A70, H⟩ := H
  replace H : (if 1 + t111.size ≤ 9223372036854775807 then (if 0 ≤ t103 then (if t103 ≤ (wrap64 (t103 + 1)) then (if (wrap64 (t103 + 1)) ≤ 2 then (if ((⟨#[40]⟩ : ByteArray) ++ t111).size + ((⟨#[124, 45]⟩ : ByteArray).extract (t103 : Int).toNat ((wrap64 (t103 + 1)) : Int).toNat).size ≤ 9223372036854775807 then ((spec_l11Cut.f k t106).bind fun t112 => (if (((⟨#[40]⟩ : ByteArray) ++ t111) ++ ((⟨#[124, 45]⟩ : ByteArray).extract (t103 : Int).toNat ((wrap64 (t103 + 1)) : Int).toNat)).size + t112.size ≤ 9223372036854775807 then (if ((((⟨#[40]⟩ : ByteArray) ++ t111) ++ ((⟨#[124, 45]⟩ : ByteArray).extract (t103 : Int).toNat ((wrap64 (t103 + 1)) : Int).toNat)) ++ t112).size + 1 ≤ 9223372036854775807 then (some (((((⟨#[40]⟩ : ByteArray) ++ t111) ++ ((⟨#[124, 45]⟩ : ByteArray).extract (t103 : Int).toNat ((wrap64 (t103 + 1)) : Int).toNat)) ++ t112) ++ (⟨#[41]⟩ : ByteArray))) else (none)) else (none))) else (none)) else (none)) else (none)) else (none)) else (none)) = some r := H
  have A7 := Aside0.mk A70
  clear A70
  by_cases c8 : 1 + t111.size ≤ 9223372036854775807
  ·
   rw [if_pos c8] at H
   have c8b0 := eq_true c8
   have c8b1 : decide (1 + t111.size ≤ 9223372036854775807) = true := decide_eq_true c8
   try have c8b2 : (9223372036854775807 < 1 + t111.size) = False := eq_false (Nat.not_lt.2 c8)
   by_cases c9 : 0 ≤ t103
   ·
    rw [if_pos c9] at H
    have c9b0 := eq_true c9
    have c9b1 : decide (0 ≤ t103) = true := decide_eq_true c9
    clear c9
    by_cases c10 : t103 ≤ (wrap64 (t103 + 1))
    ·
     rw [if_pos c10] at H
     have c10b0 := eq_true c10
     have c10b1 : decide (t103 ≤ (wrap64 (t103 + 1))) = true := decide_eq_true c10
     by_cases c11 : (wrap64 (t103 + 1)) ≤ 2
     ·
      rw [if_pos c11] at H
      have c11b0 := eq_true c11
      have c11b1 : decide ((wrap64 (t103 + 1)) ≤ 2) = true := decide_eq_true c11
      by_cases c12 : ((⟨#[40]⟩ : ByteArray) ++ t111).size + ((⟨#[124, 45]⟩ : ByteArray).extract (t103 : Int).toNat ((wrap64 (t103 + 1)) : Int).toNat).size ≤ 9223372036854775807
      ·
       rw [if_pos c12] at H
       have c12b0 := eq_true c12
       have c12b1 : decide (((⟨#[40]⟩ : ByteArray) ++ t111).size + ((⟨#[124, 45]⟩ : ByteArray).extract (t103 : Int).toNat ((wrap64 (t103 + 1)) : Int).toNat).size ≤ 9223372036854775807) = true := decide_eq_true c12
       try have c12b2 : (9223372036854775807 < ((⟨#[40]⟩ : ByteArray) ++ t111).size + ((⟨#[124, 45]⟩ : ByteArray).extract (t103 : Int).toNat ((wrap64 (t103 + 1)) : Int).toNat).size) = False := eq_false (Nat.not_lt.2 c12)
       have xs_ : ((⟨#[124, 45]⟩ : ByteArray).extract (t103 : Int).toNat ((wrap64 (t103 + 1)) : Int).toNat).size = ((wrap64 (t103 + 1)).toNat - t103.toNat) := (by rw [ByteArray.size_extract, show (⟨#[124, 45]⟩ : ByteArray).size = 2 from rfl]; omega)
       have z0_ : (⟨#[40]⟩ : ByteArray).size = 1 := rfl
       have c12b3 : (9223372036854775807 < 1 + t111.size + ((wrap64 (t103 + 1)).toNat - t103.toNat)) = False := eq_false (by have h_ := c12; simp only [ByteArray.size_append, xs_, z0_] at h_; omega)
       replace H := Option.bind_eq_some_iff.mp H
       obtain ⟨t112, A130, H⟩ := H
       replace H : (if (((⟨#[40]⟩ : ByteArray) ++ t111) ++ ((⟨#[124, 45]⟩ : ByteArray).extract (t103 : Int).toNat ((wrap64 (t103 + 1)) : Int).toNat)).size + t112.size ≤ 9223372036854775807 then (if ((((⟨#[40]⟩ : ByteArray) ++ t111) ++ ((⟨#[124, 45]⟩ : ByteArray).extract (t103 : Int).toNat ((wrap64 (t103 + 1)) : Int).toNat)) ++ t112).size + 1 ≤ 9223372036854775807 then (some (((((⟨#[40]⟩ : ByteArray) ++ t111) ++ ((⟨#[124, 45]⟩ : ByteArray).extract (t103 : Int).toNat ((wrap64 (t103 + 1)) : Int).toNat)) ++ t112) ++ (⟨#[41]⟩ : ByteArray))) else (none)) else (none)) = some r := H
       have A13 := Aside0.mk A130
       clear A130
       by_cases c14 : (((⟨#[40]⟩ : ByteArray) ++ t111) ++ ((⟨#[124, 45]⟩ : ByteArray).extract (t103 : Int).toNat ((wrap64 (t103 + 1)) : Int).toNat)).size + t112.size ≤ 9223372036854775807
       ·
        rw [if_pos c14] at H
        have c14b0 := eq_true c14
        have c14b1 : decide ((((⟨#[40]⟩ : ByteArray) ++ t111) ++ ((⟨#[124, 45]⟩ : ByteArray).extract (t103 : Int).toNat ((wrap64 (t103 + 1)) : Int).toNat)).size + t112.size ≤ 9223372036854775807) = true := decide_eq_true c14
        try have c14b2 : (9223372036854775807 < (((⟨#[40]⟩ : ByteArray) ++ t111) ++ ((⟨#[124, 45]⟩ : ByteArray).extract (t103 : Int).toNat ((wrap64 (t103 + 1)) : Int).toNat)).size + t112.size) = False := eq_false (Nat.not_lt.2 c14)
        have c14b3 : (9223372036854775807 < 1 + t111.size + ((wrap64 (t103 + 1)).toNat - t103.toNat) + t112.size) = False := eq_false (by have h_ := c14; simp only [ByteArray.size_append, xs_, z0_] at h_; omega)
        by_cases c15 : ((((⟨#[40]⟩ : ByteArray) ++ t111) ++ ((⟨#[124, 45]⟩ : ByteArray).extract (t103 : Int).toNat ((wrap64 (t103 + 1)) : Int).toNat)) ++ t112).size + 1 ≤ 9223372036854775807
        ·
         rw [if_pos c15] at H
         have c15b0 := eq_true c15
         have c15b1 : decide (((((⟨#[40]⟩ : ByteArray) ++ t111) ++ ((⟨#[124, 45]⟩ : ByteArray).extract (t103 : Int).toNat ((wrap64 (t103 + 1)) : Int).toNat)) ++ t112).size + 1 ≤ 9223372036854775807) = true := decide_eq_true c15
         try have c15b2 : (9223372036854775807 < ((((⟨#[40]⟩ : ByteArray) ++ t111) ++ ((⟨#[124, 45]⟩ : ByteArray).extract (t103 : Int).toNat ((wrap64 (t103 + 1)) : Int).toNat)) ++ t112).size + 1) = False := eq_false (Nat.not_lt.2 c15)
         have c15b3 : (9223372036854775807 < 1 + t111.size + ((wrap64 (t103 + 1)).toNat - t103.toNat) + t112.size + 1) = False := eq_false (by have h_ := c15; simp only [ByteArray.size_append, xs_, z0_] at h_; omega)
         obtain rfl := Option.some.inj H
         go_enter Try.func66, Try.ntmps66
         try go_wp2_with (first | ((with_reducible refine gate_callee (f := 119) rfl ?_); refine goesL_ (some 8) rfl rfl Try.func119 (by kernel_rfl) rfl #[.slice A0 l0.length c0] rfl (by (try simp only [List.map_toArray, List.map_cons, List.map_nil]); first | done | rfl | (simp only [List.length_drop, List.length_take]; rfl)) ?_; (with_reducible refine (spec_l3One.calls _ _ l0 false _ ?side1 ?side2 A2.out).mono ?_); (case side1 => repeat (first | exact HR0.out | (with_reducible refine Kd.C_alloc ?_ _) | (with_reducible refine Kd.C_drewN ?_ _) | (with_reducible refine Kd.C_drew ?_))); (case side2 => exact HC0.out); rintro e w16 ⟨rfl, hb⟩; refine ⟨_, rfl, ?_⟩; have n0_ := Aside0.mk (below_step (by repeat (first | (with_reducible first | exact HB.out | apply below_alloc | apply pw_below_drewN | apply below_drew1) | exact HB.out)) hb); clear HB; have HB := n0_; clear n0_; (try clear hb); (try clear hb2); (try clear hk); (try clear hi)) | ((with_reducible refine gate_callee (f := 120) rfl ?_); refine goesL_ (some 11) rfl rfl Try.func120 (by kernel_rfl) rfl #[.slice A0 l0.length c0] rfl (by (try simp only [List.map_toArray, List.map_cons, List.map_nil]); first | done | rfl | (simp only [List.length_drop, List.length_take]; rfl)) ?_; (with_reducible refine (spec_l3Cut.calls _ _ l0 t103 t104 _ ?side1 ?side2 A5.out).mono ?_); (case side1 => repeat (first | exact (Kd.C_below HR0.out HB.out) | (with_reducible refine Kd.C_alloc ?_ _) | (with_reducible refine Kd.C_drewN ?_ _) | (with_reducible refine Kd.C_drew ?_))); (case side2 => exact HC0.out); rintro e w17 ⟨rfl, hb⟩; refine ⟨_, rfl, ?_⟩; have n0_ := Aside0.mk (below_step (by repeat (first | (with_reducible first | exact HB.out | apply below_alloc | apply pw_below_drewN | apply below_drew1) | exact HB.out)) hb); clear HB; have HB := n0_; clear n0_; (try clear hb); (try clear hb2); (try clear hk); (try clear hi)) | ((with_reducible refine gate_callee (f := 121) rfl ?_); refine goesL_ (some 18) rfl rfl Try.func121 (by kernel_rfl) rfl #[.slice A0 l0.length c0, .int .i64 t103, .int .i64 t104] rfl (by (try simp only [List.map_toArray, List.map_cons, List.map_nil]); first | done | rfl | (simp only [List.length_drop, List.length_take]; rfl)) ?_; (with_reducible refine (spec_l3Parts.calls _ _ l0 t103 t104 t105 t106 _ ?side1 ?side2 A6.out).mono ?_); (case side1 => repeat (first | exact (Kd.C_below HR0.out HB.out) | (with_reducible refine Kd.C_alloc ?_ _) | (with_reducible refine Kd.C_drewN ?_ _) | (with_reducible refine Kd.C_drew ?_))); (case side2 => exact HC0.out); rintro e w18 ⟨v107, v109, rfl, ho0, ho1, hb⟩; refine ⟨_, rfl, ?_⟩; have n0_ := Aside0.mk (Kd.R_lower ho0 (below_size (by repeat (first | (with_reducible first | exact HB.out | apply below_alloc | apply pw_below_drewN | apply below_drew1) | exact HB.out)))); have n1_ := Aside0.mk (Kd.R_lower ho1 (below_size (by repeat (first | (with_reducible first | exact HB.out | apply below_alloc | apply pw_below_drewN | apply below_drew1) | exact HB.out)))); have n2_ := Aside0.mk (below_step (by repeat (first | (with_reducible first | exact HB.out | apply below_alloc | apply pw_below_drewN | apply below_drew1) | exact HB.out)) hb); clear HB; have HO108 := n0_; have HO110 := n1_; have HB := n2_; clear n0_ n1_ n2_; (try clear hb); (try clear hb2); (try clear hk); (try clear hi); (try clear ho0); (try clear ho1)))
         have n0_ := Aside0.mk (Kd.R_drew HO108.out)
         have n1_ := Aside0.mk (Kd.R_drew HO110.out)
         have n2_ := Aside0.mk (below_drew1 HB.out)
         clear HO108
         clear HO110
         clear HB
         have HO108 := n0_
         have HO110 := n1_
         have HB := n2_
         clear n0_ n1_ n2_
         obtain ⟨Ao20, co20, eo20⟩ := Kd.R_slice HO108.out
         (first | subst eo20 | (injection eo20 with f1_ f2_ f3_; have f4_ := f1_.symm; have f5_ := f3_.symm; clear f1_ f2_ f3_; subst f4_; subst f5_))
         refine start_ (n := 13) (S := fun w' => True) (ds := []) #[false, false, false, false, false, false, false, false, false, false, false, false, false] (by kernel_rfl) rfl rfl trivial (fun hHeld => ?_); refine with_tabW spec_l11Cut.tab5 spec_l11Cut.bits5 (fun HT_ HW_ => ?_)
         generalize w18.drew = w19 at HO108 HO110 HB hHeld ⊢
         refine pure_ (i := 0) (N := some 21) (v := ?_) (a' := ?_) #[true, false, false, false, false, false, false, false, false, false, false, false, false] rfl rfl (any_of HT_.out (by kernel_rfl)) (fun _ _ _ h => h) (Or.inl ⟨by rfl, ?_⟩) ?_ ?_
         rotate_left
         ·
          intro w'
          go_simp
          with_reducible rfl
         rotate_left
         ·
          simp only [Act.put, List.setIfInBounds_toArray, List.set_cons_zero, List.set_cons_succ, i64_w, i32_w]
          rfl
         refine pure_ (i := 3) (N := some 24) (v := ?_) (a' := ?_) #[true, false, false, true, false, false, false, false, false, false, false, false, false] rfl rfl (any_of HT_.out (by kernel_rfl)) (fun _ _ _ h => h) (Or.inl ⟨by rfl, ?_⟩) ?_ ?_
         rotate_left
         ·
          intro w'
          go_simp
          with_reducible rfl
         rotate_left
         ·
          simp only [Act.put, List.setIfInBounds_toArray, List.set_cons_zero, List.set_cons_succ, i64_w, i32_w]
          rfl
         refine pure_ (i := 4) (N := some 25) (v := ?_) (a' := ?_) #[true, false, false, true, true, false, false, false, false, false, false, false, false] rfl rfl (any_of HT_.out (by kernel_rfl)) (fun _ _ _ h => h) (Or.inl ⟨by rfl, ?_⟩) ?_ ?_
         rotate_left
         ·
          intro w'
          go_simp
          with_reducible rfl
         rotate_left
         ·
          simp only [Act.put, List.setIfInBounds_toArray, List.set_cons_zero, List.set_cons_succ, i64_w, i32_w]
          rfl
         refine pure_ (i := 5) (N := some 26) (v := ?_) (a' := ?_) #[true, false, false, true, true, true, false, false, false, false, false, false, false] rfl rfl (any_of HT_.out (by kernel_rfl)) (fun _ _ _ h => h) (Or.inl ⟨by rfl, ?_⟩) ?_ ?_
         rotate_left
         ·
          intro w'
          go_simp
          with_reducible rfl
         rotate_left
         ·
          simp only [Act.put, List.setIfInBounds_toArray, List.set_cons_zero, List.set_cons_succ, i64_w, i32_w]
          rfl
         refine pure_ (i := 6) (N := some 27) (v := ?_) (a' := ?_) #[true, false, false, true, true, true, true, false, false, false, false, false, false] rfl rfl (any_of HT_.out (by kernel_rfl)) (fun _ _ _ h => h) (Or.inl ⟨by rfl, ?_⟩) ?_ ?_
         rotate_left
         ·
          intro w'
          go_simp
          with_reducible rfl
         rotate_left
         ·
          simp only [Act.put, List.setIfInBounds_toArray, List.set_cons_zero, List.set_cons_succ, i64_w, i32_w]
          rfl
         refine pure_ (i := 8) (N := some 29) (v := ?_) (a' := ?_) #[true, false, false, true, true, true, true, false, true, false, false, false, false] rfl rfl (any_of HT_.out (by kernel_rfl)) (fun _ _ _ h => h) (Or.inl ⟨by rfl, ?_⟩) ?_ ?_
         rotate_left
         ·
          intro w'
          go_simp
          with_reducible rfl
         rotate_left
         ·
          simp only [Act.put, List.setIfInBounds_toArray, List.set_cons_zero, List.set_cons_succ, i64_w, i32_w]
          rfl
         refine one_ (i := 1) (N := some 22) #[true, true, false, true, true, true, true, false, true, false, false, false, false] rfl rfl (one_of HT_.out (by kernel_rfl)) (by decide) (fun K hK => ?_)
         refine goes_ Try.func66 (by kernel_rfl) rfl #[.slice Ao20 t105.length co20] (by rfl) rfl rfl (by (try simp only [List.map_toArray, List.map_cons, List.map_nil]); first | done | rfl | (simp only [List.length_drop, List.length_take]; rfl)) ?_
         with_reducible refine (ih k (by omega) _ _ t105 t111 _ ?side1 ?side2 A7.out).mono ?_
         (case side1 => repeat (first | exact (Kd.R_reads' HO108.out).2.2 | (with_reducible refine Kd.C_alloc ?_ _) | (with_reducible refine Kd.C_drewN ?_ _) | (with_reducible refine Kd.C_drew ?_)))
         (case side2 => exact (Kd.R_reads' HO108.out).2.1)
         rintro e w21 ⟨rfl, hb⟩
         refine ⟨_, rfl, ?_⟩
         have n0_ := Aside0.mk (Kd.R_below (by (with_reducible repeat (first | apply Kd.R_alloc | apply Kd.R_drewN | apply Kd.R_drew)); exact HO108.out) hb)
         have n1_ := Aside0.mk (Kd.R_below (by (with_reducible repeat (first | apply Kd.R_alloc | apply Kd.R_drewN | apply Kd.R_drew)); exact HO110.out) hb)
         have n2_ := Aside0.mk (below_step (by repeat (first | (with_reducible first | exact HB.out | apply below_alloc | apply pw_below_drewN | apply below_drew1) | exact HB.out)) hb)
         clear HO108
         clear HO110
         clear HB
         have HO108 := n0_
         have HO110 := n1_
         have HB := n2_
         clear n0_ n1_ n2_
         (try clear hb)
         (try clear hb2)
         (try clear hk)
         (try clear hi)
         obtain ⟨Ao22, co22, eo22⟩ := Kd.R_slice HO110.out
         (first | subst eo22 | (injection eo22 with f1_ f2_ f3_; have f4_ := f1_.symm; have f5_ := f3_.symm; clear f1_ f2_ f3_; subst f4_; subst f5_))
         refine hK.out _ _ trivial (fun hHeld => ?_)
         clear hK K
         refine norm_ (a' := ?_) ?_ ?_
         rotate_left
         ·
          show Act.put _ (some 22) _ = _
          simp only [Act.put, List.setIfInBounds_toArray, List.set_cons_zero, List.set_cons_succ, i64_w, i32_w]
          rfl
         refine pure_ (i := 2) (N := some 23) (v := ?_) (a' := ?_) #[true, true, true, true, true, true, true, false, true, false, false, false, false] rfl rfl (any_of HT_.out (by kernel_rfl)) (fun _ _ _ h => h) (Or.inl ⟨by rfl, ?_⟩) ?_ ?_
         rotate_left
         ·
          intro w'
          go_simp
          with_reducible rfl
         rotate_left
         ·
          simp only [Act.put, List.setIfInBounds_toArray, List.set_cons_zero, List.set_cons_succ, i64_w, i32_w]
          rfl
         refine pure_ (i := 7) (N := some 28) (v := ?_) (a' := ?_) #[true, true, true, true, true, true, true, true, true, false, false, false, false] rfl rfl (any_of HT_.out (by kernel_rfl)) (fun _ _ _ h => h) (Or.inl ⟨by rfl, ?_⟩) ?_ ?_
         rotate_left
         ·
          intro w'
          go_simp
          with_reducible rfl
         rotate_left
         ·
          simp only [Act.put, List.setIfInBounds_toArray, List.set_cons_zero, List.set_cons_succ, i64_w, i32_w]
          rfl
         refine one_ (i := 9) (N := some 30) #[true, true, true, true, true, true, true, true, true, true, false, false, false] rfl rfl (one_of HT_.out (by kernel_rfl)) (by decide) (fun K hK => ?_)
         refine goes_ Try.func66 (by kernel_rfl) rfl #[.slice Ao22 t106.length co22] (by rfl) rfl rfl (by (try simp only [List.map_toArray, List.map_cons, List.map_nil]); first | done | rfl | (simp only [List.length_drop, List.length_take]; rfl)) ?_
         with_reducible refine (ih k (by omega) _ _ t106 t112 _ ?side1 ?side2 A13.out).mono ?_
         (case side1 => repeat (first | exact (Kd.R_reads' HO110.out).2.2 | (with_reducible refine Kd.C_alloc ?_ _) | (with_reducible refine Kd.C_drewN ?_ _) | (with_reducible refine Kd.C_drew ?_)))
         (case side2 => exact (Kd.R_reads' HO110.out).2.1)
         rintro e w23 ⟨rfl, hb⟩
         refine ⟨_, rfl, ?_⟩
         have n0_ := Aside0.mk (Kd.R_below (by (with_reducible repeat (first | apply Kd.R_alloc | apply Kd.R_drewN | apply Kd.R_drew)); exact HO108.out) hb)
         have n1_ := Aside0.mk (Kd.R_below (by (with_reducible repeat (first | apply Kd.R_alloc | apply Kd.R_drewN | apply Kd.R_drew)); exact HO110.out) hb)
         have n2_ := Aside0.mk (below_step (by repeat (first | (with_reducible first | exact HB.out | apply below_alloc | apply pw_below_drewN | apply below_drew1) | exact HB.out)) hb)
         clear HO108
         clear HO110
         clear HB
         have HO108 := n0_
         have HO110 := n1_
         have HB := n2_
         clear n0_ n1_ n2_
         (try clear hb)
         (try clear hb2)
         (try clear hk)
         (try clear hi)
         refine hK.out _ _ trivial (fun hHeld => ?_)
         clear hK K
         refine norm_ (a' := ?_) ?_ ?_
         rotate_left
         ·
          show Act.put _ (some 30) _ = _
          simp only [Act.put, List.setIfInBounds_toArray, List.set_cons_zero, List.set_cons_succ, i64_w, i32_w]
          rfl
         refine pure_ (i := 10) (N := some 31) (v := ?_) (a' := ?_) #[true, true, true, true, true, true, true, true, true, true, true, false, false] rfl rfl (any_of HT_.out (by kernel_rfl)) (fun _ _ _ h => h) (Or.inl ⟨by rfl, ?_⟩) ?_ ?_
         rotate_left
         ·
          intro w'
          go_simp
          with_reducible rfl
         rotate_left
         ·
          simp only [Act.put, List.setIfInBounds_toArray, List.set_cons_zero, List.set_cons_succ, i64_w, i32_w]
          rfl
         refine pure_ (i := 11) (N := some 32) (v := ?_) (a' := ?_) #[true, true, true, true, true, true, true, true, true, true, true, true, false] rfl rfl (any_of HT_.out (by kernel_rfl)) (fun _ _ _ h => h) (Or.inl ⟨by rfl, ?_⟩) ?_ ?_
         rotate_left
         ·
          intro w'
          go_simp
          with_reducible rfl
         rotate_left
         ·
          simp only [Act.put, List.setIfInBounds_toArray, List.set_cons_zero, List.set_cons_succ, i64_w, i32_w]
          rfl
         refine pure_ (i := 12) (N := some 2) (v := ?_) (a' := ?_) #[true, true, true, true, true, true, true, true, true, true, true, true, true] rfl rfl (any_of HT_.out (by kernel_rfl)) (fun _ _ _ h => h) (Or.inl ⟨by rfl, ?_⟩) ?_ ?_
         rotate_left
         ·
          intro w'
          go_simp
          with_reducible rfl
         rotate_left
         ·
          simp only [Act.put, List.setIfInBounds_toArray, List.set_cons_zero, List.set_cons_succ, i64_w, i32_w]
          rfl
         refine done_ (done_of HT_.out (by kernel_rfl)) ?_
         try go_wp2
         go_ret
         exact ⟨by first | rfl | (simp [errW_none, errW_some] <;> rfl) | (simp [*, errW_none, errW_some] <;> rfl), by repeat (first | (with_reducible first | exact HB.out | apply below_alloc | apply pw_below_drewN | apply below_drew1) | exact HB.out)⟩
        ·
         rw [if_neg c15] at H
         exact absurd H (by simp)
       ·
        rw [if_neg c14] at H
        exact absurd H (by simp)
      ·
       rw [if_neg c12] at H
       exact absurd H (by simp)
     ·
      rw [if_neg c11] at H
      exact absurd H (by simp)
    ·
     rw [if_neg c10] at H
     exact absurd H (by simp)
   ·
    rw [if_neg c9] at H
    exact absurd H (by simp)
  ·
   rw [if_neg c8] at H
   exact absurd H (by simp)
def spec_TermOf.f (k : Nat) (l0 : List ByteArray) : Option (ByteArray × Bool) := (spec_l5Plain.f l0).bind fun t113 => (if t113 = true then ((spec_CutIs.f l0).bind fun t114 => (if t114 = true then ((spec_l1Rooms.f l0).bind fun t115 => (if t115 > 7 then (some ((⟨#[]⟩ : ByteArray), false)) else ((spec_l11Cut.f k l0).bind fun t116 => (some (t116, true))))) else (some ((⟨#[]⟩ : ByteArray), false)))) else (some ((⟨#[]⟩ : ByteArray), false)))
theorem spec_TermOf.mono : ∀ a0 k, LeO (spec_TermOf.f k a0) (spec_TermOf.f (k + 1) a0) := by
 intro a0 k
 unfold spec_TermOf.f
 repeat' first
   | (with_reducible exact spec_l11Cut.mono _ _)
   | (with_reducible exact LeO.refl _)
   | (with_reducible exact LeO.none _)
   | (with_reducible refine LeO.ite ?_ ?_)
   | (with_reducible refine LeO.bind ?_ (fun _ => ?_))
   | exact spec_l11Cut.mono _ _
   | exact LeO.none _
   | refine LeO.ite ?_ ?_
   | refine LeO.bind ?_ (fun _ => ?_)
set_option maxHeartbeats 8000000 in
set_option maxRecDepth 100000 in
theorem spec_TermOf.calls (k : Nat) (A0 : Option Addr) (c0 : Nat) (l0 : List ByteArray) (r1 : ByteArray) (r2 : Bool) (w : World) (hr0 : Kd.C Kd.string w A0 l0.length l0) (hc0 : l0.length ≤ c0) (h : spec_TermOf.f k l0 = some (r1, r2)) :
  Calls Try.prog 16 #[.slice A0 l0.length c0] w fun e w' => e = .returned (.tuple #[.string r1, .bool r2]) ∧ Below w.heap.size w w' := by
 have HR0 := Aside0.mk hr0
 have HC0 := Aside0.mk hc0
 clear hr0 hc0
 have HB := Aside0.mk (Below.refl w.heap.size w)
 have H : ((spec_l5Plain.f l0).bind fun t113 => (if t113 = true then ((spec_CutIs.f l0).bind fun t114 => (if t114 = true then ((spec_l1Rooms.f l0).bind fun t115 => (if t115 > 7 then (some ((⟨#[]⟩ : ByteArray), false)) else ((spec_l11Cut.f k l0).bind fun t116 => (some (t116, true))))) else (some ((⟨#[]⟩ : ByteArray), false)))) else (some ((⟨#[]⟩ : ByteArray), false)))) = some (r1, r2) := h
 clear h
 replace H := Option.bind_eq_some_iff.mp H
 obtain ⟨t113, A20, H⟩ := H
 replace H : (if t113 = true then ((spec_CutIs.f l0).bind fun t114 => (if t114 = true then ((spec_l1Rooms.f l0).bind fun t115 => (if t115 > 7 then (some ((⟨#[]⟩ : ByteArray), false)) else ((spec_l11Cut.f k l0).bind fun t116 => (some (t116, true))))) else (some ((⟨#[]⟩ : ByteArray), false)))) else (some ((⟨#[]⟩ : ByteArray), false))) = some (r1, r2) := H
 have A2 := Aside0.mk A20
 clear A20
 by_cases c3 : t113 = true
 ·
  subst c3
  have H1 : ((spec_CutIs.f l0).bind fun t114 => (if t114 = true then ((spec_l1Rooms.f l0).bind fun t115 => (if t115 > 7 then (some ((⟨#[]⟩ : ByteArray), false)) else ((spec_l11Cut.f k l0).bind fun t116 => (some (t116, true))))) else (some ((⟨#[]⟩ : ByteArray), false)))) = some (r1, r2) := by rw [if_pos rfl] at H; exact H
  clear H
  have H := H1
  clear H1
  replace H := Option.bind_eq_some_iff.mp H
  obtain ⟨t114, A40, H⟩ := H
  replace H : (if t114 = true then ((spec_l1Rooms.f l0).bind fun t115 => (if t115 > 7 then (some ((⟨#[]⟩ : ByteArray), false)) else ((spec_l11Cut.f k l0).bind fun t116 => (some (t116, true))))) else (some ((⟨#[]⟩ : ByteArray), false))) = some (r1, r2) := H
  have A4 := Aside0.mk A40
  clear A40
  by_cases c5 : t114 = true
  ·
   subst c5
   have H1 : ((spec_l1Rooms.f l0).bind fun t115 => (if t115 > 7 then (some ((⟨#[]⟩ : ByteArray), false)) else ((spec_l11Cut.f k l0).bind fun t116 => (some (t116, true))))) = some (r1, r2) := by rw [if_pos rfl] at H; exact H
   clear H
   have H := H1
   clear H1
   replace H := Option.bind_eq_some_iff.mp H
   obtain ⟨t115, A60, H⟩ := H
   replace H : (if t115 > 7 then (some ((⟨#[]⟩ : ByteArray), false)) else ((spec_l11Cut.f k l0).bind fun t116 => (some (t116, true)))) = some (r1, r2) := H
   have A6 := Aside0.mk A60
   clear A60
   by_cases c7 : t115 > 7
   ·
    rw [if_pos c7] at H
    have c7b0 : decide (7 < t115) = true := decide_eq_true c7
    clear c7
    simp only [Option.some.injEq, Prod.mk.injEq] at H
    obtain ⟨rfl, rfl⟩ := H
    go_enter Try.func16, Try.ntmps16
    go_wp2_with (first | ((with_reducible refine gate_callee (f := 63) rfl ?_); refine goesL_ (some 5) rfl rfl Try.func63 (by kernel_rfl) rfl #[.slice A0 l0.length c0] rfl (by (try simp only [List.map_toArray, List.map_cons, List.map_nil]); first | done | rfl | (simp only [List.length_drop, List.length_take]; rfl)) ?_; (with_reducible refine (spec_l5Plain.calls _ _ l0 true _ ?side1 ?side2 A2.out).mono ?_); (case side1 => repeat (first | exact HR0.out | (with_reducible refine Kd.C_alloc ?_ _) | (with_reducible refine Kd.C_drewN ?_ _) | (with_reducible refine Kd.C_drew ?_))); (case side2 => exact HC0.out); rintro e w8 ⟨rfl, hb⟩; refine ⟨_, rfl, ?_⟩; have n0_ := Aside0.mk (below_step (by repeat (first | (with_reducible first | exact HB.out | apply below_alloc | apply pw_below_drewN | apply below_drew1) | exact HB.out)) hb); clear HB; have HB := n0_; clear n0_; (try clear hb); (try clear hb2); (try clear hk); (try clear hi)) | (go_at_call 64; (with_reducible refine (spec_CutIs.calls _ _ l0 true _ ?side1 ?side2 A4.out).mono ?_); (case side1 => repeat (first | exact (Kd.C_below HR0.out HB.out) | (with_reducible refine Kd.C_alloc ?_ _) | (with_reducible refine Kd.C_drewN ?_ _) | (with_reducible refine Kd.C_drew ?_))); (case side2 => exact HC0.out); rintro e w9 ⟨rfl, hb⟩; have n0_ := Aside0.mk (below_step (by repeat (first | (with_reducible first | exact HB.out | apply below_alloc | apply pw_below_drewN | apply below_drew1) | exact HB.out)) hb); clear HB; have HB := n0_; clear n0_; (try clear hb); (try clear hb2); (try clear hk); (try clear hi)) | (go_at_call 65; (with_reducible refine (spec_l1Rooms.calls _ _ l0 t115 _ ?side1 ?side2 A6.out).mono ?_); (case side1 => repeat (first | exact (Kd.C_below HR0.out HB.out) | (with_reducible refine Kd.C_alloc ?_ _) | (with_reducible refine Kd.C_drewN ?_ _) | (with_reducible refine Kd.C_drew ?_))); (case side2 => exact HC0.out); rintro e w10 ⟨rfl, hb⟩; have n0_ := Aside0.mk (below_step (by repeat (first | (with_reducible first | exact HB.out | apply below_alloc | apply pw_below_drewN | apply below_drew1) | exact HB.out)) hb); clear HB; have HB := n0_; clear n0_; (try clear hb); (try clear hb2); (try clear hk); (try clear hi)))
    go_ret2
    exact ⟨by first | rfl | (simp [errW_none, errW_some] <;> rfl) | (simp [*, errW_none, errW_some] <;> rfl), by repeat (first | (with_reducible first | exact HB.out | apply below_alloc | apply pw_below_drewN | apply below_drew1) | exact HB.out)⟩
   ·
    rw [if_neg c7] at H
    have c7b0 : decide (7 < t115) = false := decide_eq_false c7
    clear c7
    replace H := Option.bind_eq_some_iff.mp H
    obtain ⟨t116, A110, H⟩ := H
    replace H : (some (t116, true)) = some (r1, r2) := H
    have A11 := Aside0.mk A110
    clear A110
    simp only [Option.some.injEq, Prod.mk.injEq] at H
    obtain ⟨rfl, rfl⟩ := H
    go_enter Try.func16, Try.ntmps16
    go_wp2_with (first | ((with_reducible refine gate_callee (f := 63) rfl ?_); refine goesL_ (some 5) rfl rfl Try.func63 (by kernel_rfl) rfl #[.slice A0 l0.length c0] rfl (by (try simp only [List.map_toArray, List.map_cons, List.map_nil]); first | done | rfl | (simp only [List.length_drop, List.length_take]; rfl)) ?_; (with_reducible refine (spec_l5Plain.calls _ _ l0 true _ ?side1 ?side2 A2.out).mono ?_); (case side1 => repeat (first | exact HR0.out | (with_reducible refine Kd.C_alloc ?_ _) | (with_reducible refine Kd.C_drewN ?_ _) | (with_reducible refine Kd.C_drew ?_))); (case side2 => exact HC0.out); rintro e w12 ⟨rfl, hb⟩; refine ⟨_, rfl, ?_⟩; have n0_ := Aside0.mk (below_step (by repeat (first | (with_reducible first | exact HB.out | apply below_alloc | apply pw_below_drewN | apply below_drew1) | exact HB.out)) hb); clear HB; have HB := n0_; clear n0_; (try clear hb); (try clear hb2); (try clear hk); (try clear hi)) | (go_at_call 64; (with_reducible refine (spec_CutIs.calls _ _ l0 true _ ?side1 ?side2 A4.out).mono ?_); (case side1 => repeat (first | exact (Kd.C_below HR0.out HB.out) | (with_reducible refine Kd.C_alloc ?_ _) | (with_reducible refine Kd.C_drewN ?_ _) | (with_reducible refine Kd.C_drew ?_))); (case side2 => exact HC0.out); rintro e w13 ⟨rfl, hb⟩; have n0_ := Aside0.mk (below_step (by repeat (first | (with_reducible first | exact HB.out | apply below_alloc | apply pw_below_drewN | apply below_drew1) | exact HB.out)) hb); clear HB; have HB := n0_; clear n0_; (try clear hb); (try clear hb2); (try clear hk); (try clear hi)) | (go_at_call 65; (with_reducible refine (spec_l1Rooms.calls _ _ l0 t115 _ ?side1 ?side2 A6.out).mono ?_); (case side1 => repeat (first | exact (Kd.C_below HR0.out HB.out) | (with_reducible refine Kd.C_alloc ?_ _) | (with_reducible refine Kd.C_drewN ?_ _) | (with_reducible refine Kd.C_drew ?_))); (case side2 => exact HC0.out); rintro e w14 ⟨rfl, hb⟩; have n0_ := Aside0.mk (below_step (by repeat (first | (with_reducible first | exact HB.out | apply below_alloc | apply pw_below_drewN | apply below_drew1) | exact HB.out)) hb); clear HB; have HB := n0_; clear n0_; (try clear hb); (try clear hb2); (try clear hk); (try clear hi)) | ((with_reducible refine gate_callee (f := 66) rfl ?_); refine goesL_ (some 18) rfl rfl Try.func66 (by kernel_rfl) rfl #[.slice A0 l0.length c0] rfl (by (try simp only [List.map_toArray, List.map_cons, List.map_nil]); first | done | rfl | (simp only [List.length_drop, List.length_take]; rfl)) ?_; (with_reducible refine (spec_l11Cut.calls k _ _ l0 t116 _ ?side1 ?side2 A11.out).mono ?_); (case side1 => repeat (first | exact (Kd.C_below HR0.out HB.out) | (with_reducible refine Kd.C_alloc ?_ _) | (with_reducible refine Kd.C_drewN ?_ _) | (with_reducible refine Kd.C_drew ?_))); (case side2 => exact HC0.out); rintro e w15 ⟨rfl, hb⟩; refine ⟨_, rfl, ?_⟩; have n0_ := Aside0.mk (below_step (by repeat (first | (with_reducible first | exact HB.out | apply below_alloc | apply pw_below_drewN | apply below_drew1) | exact HB.out)) hb); clear HB; have HB := n0_; clear n0_; (try clear hb); (try clear hb2); (try clear hk); (try clear hi)))
    go_ret2
    exact ⟨by first | rfl | (simp [errW_none, errW_some] <;> rfl) | (simp [*, errW_none, errW_some] <;> rfl), by repeat (first | (with_reducible first | exact HB.out | apply below_alloc | apply pw_below_drewN | apply below_drew1) | exact HB.out)⟩
  ·
   replace c5 := Bool.eq_false_iff.mpr c5
   subst c5
   have H1 : (some ((⟨#[]⟩ : ByteArray), false)) = some (r1, r2) := by rw [if_neg (show ¬ (false = true) by decide)] at H; exact H
   clear H
   have H := H1
   clear H1
   simp only [Option.some.injEq, Prod.mk.injEq] at H
   obtain ⟨rfl, rfl⟩ := H
   go_enter Try.func16, Try.ntmps16
   go_wp2_with (first | ((with_reducible refine gate_callee (f := 63) rfl ?_); refine goesL_ (some 5) rfl rfl Try.func63 (by kernel_rfl) rfl #[.slice A0 l0.length c0] rfl (by (try simp only [List.map_toArray, List.map_cons, List.map_nil]); first | done | rfl | (simp only [List.length_drop, List.length_take]; rfl)) ?_; (with_reducible refine (spec_l5Plain.calls _ _ l0 true _ ?side1 ?side2 A2.out).mono ?_); (case side1 => repeat (first | exact HR0.out | (with_reducible refine Kd.C_alloc ?_ _) | (with_reducible refine Kd.C_drewN ?_ _) | (with_reducible refine Kd.C_drew ?_))); (case side2 => exact HC0.out); rintro e w16 ⟨rfl, hb⟩; refine ⟨_, rfl, ?_⟩; have n0_ := Aside0.mk (below_step (by repeat (first | (with_reducible first | exact HB.out | apply below_alloc | apply pw_below_drewN | apply below_drew1) | exact HB.out)) hb); clear HB; have HB := n0_; clear n0_; (try clear hb); (try clear hb2); (try clear hk); (try clear hi)) | (go_at_call 64; (with_reducible refine (spec_CutIs.calls _ _ l0 false _ ?side1 ?side2 A4.out).mono ?_); (case side1 => repeat (first | exact (Kd.C_below HR0.out HB.out) | (with_reducible refine Kd.C_alloc ?_ _) | (with_reducible refine Kd.C_drewN ?_ _) | (with_reducible refine Kd.C_drew ?_))); (case side2 => exact HC0.out); rintro e w17 ⟨rfl, hb⟩; have n0_ := Aside0.mk (below_step (by repeat (first | (with_reducible first | exact HB.out | apply below_alloc | apply pw_below_drewN | apply below_drew1) | exact HB.out)) hb); clear HB; have HB := n0_; clear n0_; (try clear hb); (try clear hb2); (try clear hk); (try clear hi)))
   go_ret2
   exact ⟨by first | rfl | (simp [errW_none, errW_some] <;> rfl) | (simp [*, errW_none, errW_some] <;> rfl), by repeat (first | (with_reducible first | exact HB.out | apply below_alloc | apply pw_below_drewN | apply below_drew1) | exact HB.out)⟩
 ·
  replace c3 := Bool.eq_false_iff.mpr c3
  subst c3
  have H1 : (some ((⟨#[]⟩ : ByteArray), false)) = some (r1, r2) := by rw [if_neg (show ¬ (false = true) by decide)] at H; exact H
  clear H
  have H := H1
  clear H1
  simp only [Option.some.injEq, Prod.mk.injEq] at H
  obtain ⟨rfl, rfl⟩ := H
  go_enter Try.func16, Try.ntmps16
  go_wp2_with (first | ((with_reducible refine gate_callee (f := 63) rfl ?_); refine goesL_ (some 5) rfl rfl Try.func63 (by kernel_rfl) rfl #[.slice A0 l0.length c0] rfl (by (try simp only [List.map_toArray, List.map_cons, List.map_nil]); first | done | rfl | (simp only [List.length_drop, List.length_take]; rfl)) ?_; (with_reducible refine (spec_l5Plain.calls _ _ l0 false _ ?side1 ?side2 A2.out).mono ?_); (case side1 => repeat (first | exact HR0.out | (with_reducible refine Kd.C_alloc ?_ _) | (with_reducible refine Kd.C_drewN ?_ _) | (with_reducible refine Kd.C_drew ?_))); (case side2 => exact HC0.out); rintro e w18 ⟨rfl, hb⟩; refine ⟨_, rfl, ?_⟩; have n0_ := Aside0.mk (below_step (by repeat (first | (with_reducible first | exact HB.out | apply below_alloc | apply pw_below_drewN | apply below_drew1) | exact HB.out)) hb); clear HB; have HB := n0_; clear n0_; (try clear hb); (try clear hb2); (try clear hk); (try clear hi)))
  go_ret2
  exact ⟨by first | rfl | (simp [errW_none, errW_some] <;> rfl) | (simp [*, errW_none, errW_some] <;> rfl), by repeat (first | (with_reducible first | exact HB.out | apply below_alloc | apply pw_below_drewN | apply below_drew1) | exact HB.out)⟩
end
end Go.Proofs.Ytbpppchkgjcahaa.L11
