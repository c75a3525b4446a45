/- The program's CutDeep, and the reference's. -/
import Derived.Test.YtiehiockjlhbcaaKCutText
import Derived.Test.YtiehiockjlhbcaaKDeep
import Derived.Test.YtiehiockjlhbcaaKSpecDeep
namespace Go.Proofs.Ytiehiockjlhbcaa
open Go.RowKit Go.Shelf Go.Proofs.YtiehiockjlhbcaaW.PrintWords Go.Proofs.YtiehiockjlhbcaaW.PrintMore
set_option linter.unusedVariables false

def deepP (p : List ByteArray) : Option Nat := deepO (clP p) (boxesP p) 13 (0, 0, p.length, wdP p)
def cutDeepP (p : List ByteArray) : Int × Bool := if planG p then ((((deepP p).getD 0 : Nat) : Int), (deepP p).isSome) else (0, false)
theorem deep_text {p : List ByteArray} (h : planG p = true) : (cutTextO p).isSome = (deepP p).isSome := by
  have f := planFlat h
  have hh := f.high
  have hw := f.wide
  have e1 := text_pos f 13 0 0 p.length (wdP p) (by omega) f.whole
  have e2 := deep_pos f 13 0 0 p.length (wdP p) (by omega) f.whole
  rw [Bool.eq_iff_iff]
  exact e1.trans e2.symm

set_option maxHeartbeats 4000000 in
theorem cutDeep_any (A : Option Addr) (cap : Nat) (p : List ByteArray) (hp : SmallP p) (w : World) (hr0 : Kd.C Kd.string w A p.length p) (hc0 : p.length ≤ cap) :
    Calls Try.prog 29 #[.slice A p.length cap] w fun e w' => e = .returned (.tuple #[.int .i64 (cutDeepP p).1, .bool (cutDeepP p).2]) ∧ Below w.heap.size w w' := by
  have HFL := floorOf_any A cap p hp.1 hp.2 w hr0 hc0
  clear hr0
  go_enter Try.func29, Try.ntmps29
  go_wp2_with fail
  refine HFL.mono ?_
  rintro e w1 ⟨hb1, ⟨hpl, fb, base, rfl, hbase, hfl⟩ | ⟨hpl, o, rfl⟩⟩
  · have HB1 := Aside0.mk hb1
    have F := Aside0.mk (planFlat hpl)
    have hR := hfl.reads
    have hh := (planFlat hpl).high
    have hw := (planFlat hpl).wide
    have hval : cutDeepP p = ((((deepP p).getD 0 : Nat) : Int), (deepP p).isSome) := by unfold cutDeepP; rw [if_pos hpl]
    have HV := Aside0.mk hval
    have HWH := Aside0.mk (whole_any fb p.length (wdP p) (clP p) (boxesP p) w1 hR (by omega) (by omega))
    have HWA := Aside0.mk (fun W (hW : Below w1.heap.size w1 W) => deep_any fb p.length (wdP p) (clP p) (boxesP p) F.out F.out.boxIn 13 (by omega) 0 0 p.length (wdP p) (by omega) F.out.whole W (hR.below hW))
    obtain ⟨m, hm⟩ : ∃ m, deepO (clP p) (boxesP p) 13 (0, 0, p.length, wdP p) = m := ⟨_, rfl⟩
    rw [hm] at HWA
    have HM := Aside0.mk (show deepP p = m from hm)
    clear hb1 hpl hfl hR hval hm
    go_wp2_with fail
    refine HWH.out.mono ?_
    rintro e w2 ⟨rfl, hb2⟩
    have HB2 := Aside0.mk hb2
    clear hb2
    go_wp2_with fail
    refine (HWA.out _ HB2.out).mono ?_
    rintro e w3 ⟨rfl, hb3⟩
    have HB3 := Aside0.mk hb3
    clear hb3
    unfold deepV
    go_wp2_with fail
    all_goals
      go_ret2
      exact ⟨by rw [HV.out, HM.out]; rfl, HB1.out.trans ((HB2.out.trans (HB3.out.mono HB2.out.size)).mono HB1.out.size)⟩
  · have HB1 := Aside0.mk hb1
    have hval : cutDeepP p = (0, false) := by unfold cutDeepP; rw [hpl]; rfl
    have HV := Aside0.mk hval
    clear hb1 hpl hval
    go_wp2_with fail
    go_ret2
    exact ⟨by rw [HV.out]; rfl, HB1.out⟩
theorem cutIs_ev2 (p : List ByteArray) (hp : SmallP p) : Ev (fun k => L3.spec_CutIs.f k p) (cutTextP p).2 := by
  have hPI : Ev (fun _ : Nat => spec_PlanIn.f p) (planG p) := ⟨0, fun k _ => by unfold spec_PlanIn.f; rw [if_pos hp]⟩
  unfold cutTextP
  cases h : planG p with
  | false =>
    rw [h] at hPI
    refine hPI.bind (F := fun k t193 => _) ?_
    simp only [Bool.false_eq_true, if_false]
    exact Ev.const _
  | true =>
    obtain ⟨s, e, y⟩ := spec_text p h
    rw [h] at hPI
    refine hPI.bind (F := fun k t193 => _) ?_
    simp only [if_true]
    exact e.bind (Ev.const _)
theorem spec_CutDeep_f (p : List ByteArray) (hp : SmallP p) : ∃ k, L3.spec_CutDeep.f k p = some (cutDeepP p) := by
  refine Ev.ex (g := fun k => L3.spec_CutDeep.f k p) ?_
  refine (cutIs_ev2 p hp).bind (F := fun k t267 => if t267 = true then (L3.spec_l3Deep.f k p).bind fun t268 => some (t268, true) else some (0, false)) ?_
  unfold cutTextP cutDeepP
  cases h : planG p with
  | false => exact Ev.const _
  | true =>
    have f := planFlat h
    have hw := deep_text h
    have hh := f.high
    have hwd := f.wide
    simp only [if_true]
    rw [← hw]
    cases hs : (cutTextO p).isSome with
    | false =>
      simp only [Bool.false_eq_true, if_false]
      have h0 : deepP p = none := by
        rw [hs] at hw
        exact Option.not_isSome_iff_eq_none.1 (by rw [← hw]; simp)
      rw [h0]
      exact Ev.const _
    | true =>
      simp only [if_true]
      have hpos := (text_pos f 13 0 0 p.length (wdP p) (by omega) f.whole).1 hs
      have := specDeep f 13 (by omega) 0 0 p.length (wdP p) p (by omega) f.whole (planTG h) hpos
      exact this.bind (Ev.const _)
def impl_CutDeep.f (l0 : List ByteArray) : Option (Int × Bool) := if SmallP l0 then some (cutDeepP l0) else none
theorem impl_CutDeep.calls (A0 : Option Addr) (c0 : Nat) (l0 : List ByteArray) (r1 : Int) (r2 : Bool) (w : World) (hr0 : Kd.C Kd.string w A0 l0.length l0) (hc0 : l0.length ≤ c0) (h : impl_CutDeep.f l0 = some (r1, r2)) :
    Calls Try.prog 29 #[.slice A0 l0.length c0] w fun e w' => e = .returned (.tuple #[.int .i64 r1, .bool r2]) ∧ Below w.heap.size w w' := by
  unfold impl_CutDeep.f at h
  split at h
  · rename_i hb; injection h with h; have := cutDeep_any A0 c0 l0 hb w hr0 hc0; rw [h] at this; exact this
  · cases h
def spec_CutDeep.f (l0 : List ByteArray) : Option (Int × Bool) := if SmallP l0 then some (cutDeepP l0) else none
theorem spec_CutDeep.calls (A0 : Option Addr) (c0 : Nat) (l0 : List ByteArray) (r1 : Int) (r2 : Bool) (w : World) (hr0 : Kd.C Kd.string w A0 l0.length l0) (hc0 : l0.length ≤ c0) (h : spec_CutDeep.f l0 = some (r1, r2)) :
    Calls Try.prog 28 #[.slice A0 l0.length c0] w fun e w' => e = .returned (.tuple #[.int .i64 r1, .bool r2]) ∧ Below w.heap.size w w' := by
  unfold spec_CutDeep.f at h
  split at h
  · rename_i hb
    injection h with h
    obtain ⟨k, hk⟩ := spec_CutDeep_f l0 hb
    rw [h] at hk
    exact L3.spec_CutDeep.calls k A0 c0 l0 r1 r2 w hr0 hc0 hk
  · cases h
end Go.Proofs.Ytiehiockjlhbcaa
