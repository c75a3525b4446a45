/- The program's CutText and CutIs, and the reference's. -/
import Derived.Test.YtiehiockjlhbcaaKPlanFlat
namespace Go.Proofs.Ytiehiockjlhbcaa
open Go.RowKit Go.Shelf Go.Proofs.YtiehiockjlhbcaaW.PrintWords Go.Proofs.YtiehiockjlhbcaaW.PrintMore
set_option linter.unusedVariables false

theorem Flat.boxIn {cl : Nat → Nat → Int} {boxes : List Box} {h wd : Nat} (f : Flat cl boxes h wd) : ∀ x ∈ boxes, BoxIn x := by
  intro x hx
  obtain ⟨k, hk, rfl⟩ := List.getElem_of_mem hx
  obtain ⟨a, b, c, d, e, h1, h2, h3, h4, _⟩ := f.box k hk
  have hh := f.high
  have hw := f.wide
  rw [e]
  exact boxIn_nat (by omega) (by omega) (by omega) (by omega)
/-- What CutText answers. -/
def cutTextO (p : List ByteArray) : Option (List UInt8) := textL (clP p) (boxesP p) 13 (0, 0, p.length, wdP p)
def cutTextP (p : List ByteArray) : ByteArray × Bool := if planG p then (⟨((cutTextO p).getD []).toArray⟩, (cutTextO p).isSome) else (⟨#[]⟩, false)

def cutIsP (p : List ByteArray) : Bool := (cutTextP p).2
set_option maxHeartbeats 4000000 in
theorem cutText_any (A : Option Addr) (cap : Nat) (p : List ByteArray) (hp : SmallP p) (w : World) (hr0 : Kd.C Kd.string w A p.length p) (hc0 : p.length ≤ cap) :
    Calls Try.prog 18 #[.slice A p.length cap] w fun e w' => e = .returned (.tuple #[.string (cutTextP p).1, .bool (cutTextP p).2]) ∧ Below w.heap.size w w' := by
  have HFL := floorOf_any A cap p hp.1 hp.2 w hr0 hc0
  clear hr0
  go_enter Try.func18, Try.ntmps18
  go_wp2_with fail
  refine HFL.mono ?_
  rintro e w1 ⟨hb1, ⟨hpl, fb, base, rfl, hbase, hfl⟩ | ⟨hpl, o, rfl⟩⟩
  · have HB1 := Aside0.mk hb1
    have F := Aside0.mk (planFlat hpl)
    have hR := hfl.reads
    have hh := (planFlat hpl).high
    have hw := (planFlat hpl).wide
    have hval : cutTextP p = (⟨((cutTextO p).getD []).toArray⟩, (cutTextO p).isSome) := by unfold cutTextP; rw [if_pos hpl]
    have HV := Aside0.mk hval
    have HWH := Aside0.mk (whole_any fb p.length (wdP p) (clP p) (boxesP p) w1 hR (by omega) (by omega))
    have HTX := Aside0.mk (fun W (hW : Below w1.heap.size w1 W) => text_of fb p.length (wdP p) (clP p) (boxesP p) hh.2 hw.2 F.out.boxIn F.out.few 0 0 p.length (wdP p) (by omega) (by omega) W (hR.below hW))
    clear hb1 hpl hfl hR hval
    go_wp2_with fail
    refine HWH.out.mono ?_
    rintro e w2 ⟨rfl, hb2⟩
    have HB2 := Aside0.mk hb2
    clear hb2
    go_wp2_with fail
    refine (HTX.out _ HB2.out).mono ?_
    rintro e w3 ⟨rfl, hb3⟩
    have HB3 := Aside0.mk hb3
    clear hb3
    unfold textV
    go_wp2_with fail
    go_ret2
    exact ⟨by rw [HV.out]; rfl, HB1.out.trans ((HB2.out.trans (HB3.out.mono HB2.out.size)).mono HB1.out.size)⟩
  · have HB1 := Aside0.mk hb1
    have hval : cutTextP p = (⟨#[]⟩, false) := by unfold cutTextP; rw [hpl]; rfl
    have HV := Aside0.mk hval
    clear hb1 hpl hval
    go_wp2_with fail
    go_ret2
    exact ⟨by rw [HV.out]; rfl, HB1.out⟩
set_option maxHeartbeats 4000000 in
theorem cutIs_any (A : Option Addr) (cap : Nat) (p : List ByteArray) (hp : SmallP p) (w : World) (hr0 : Kd.C Kd.string w A p.length p) (hc0 : p.length ≤ cap) :
    Calls Try.prog 21 #[.slice A p.length cap] w fun e w' => e = .returned (.bool (cutTextP p).2) ∧ Below w.heap.size w w' := by
  have HCT := cutText_any A cap p hp w hr0 hc0
  clear hr0
  go_enter Try.func21, Try.ntmps21
  go_wp2_with fail
  refine HCT.mono ?_
  rintro e w1 ⟨rfl, hb1⟩
  have HB1 := Aside0.mk hb1
  clear hb1
  go_wp2_with fail
  go_ret
  exact ⟨rfl, HB1.out⟩

/-- The reference's CutText and CutIs. -/
theorem spec_text (p : List ByteArray) (h : planG p = true) : ∃ s : ByteArray, Ev (fun k => L3.spec_l3Text.f k p) (s, (cutTextO p).isSome) ∧ ∀ x, cutTextO p = some x → s = ⟨x.toArray⟩ := by
  have f := planFlat h
  obtain ⟨s, e, _, y⟩ := specText f 13 (by omega) 0 0 p.length (wdP p) p (by have := f.high; have := f.wide; omega) f.whole (planTG h)
  exact ⟨s, e, y⟩
theorem spec_CutText_f (p : List ByteArray) (hp : SmallP p) : ∃ k, L3.spec_CutText.f k p = some (cutTextP p) := by
  refine Ev.ex (g := fun k => L3.spec_CutText.f k p) ?_
  have hpi : ∀ k : Nat, spec_PlanIn.f p = some (planG p) := fun k => by unfold spec_PlanIn.f; rw [if_pos hp]
  have hPI : Ev (fun _ : Nat => spec_PlanIn.f p) (planG p) := ⟨0, fun k _ => hpi k⟩
  unfold cutTextP
  cases h : planG p with
  | false =>
    rw [h] at hPI
    refine hPI.bind (F := fun k t193 => _) ?_
    simp only [Bool.false_eq_true, if_false]
    exact Ev.const _
  | true =>
    obtain ⟨s, e, y⟩ := spec_text p h
    rw [h] at hPI
    refine hPI.bind (F := fun k t193 => _) ?_
    simp only [if_true]
    refine e.bind ?_
    cases ho : cutTextO p with
    | none => exact Ev.const _
    | some x =>
      rw [y x ho]
      exact Ev.const _
theorem spec_CutIs_f (p : List ByteArray) (hp : SmallP p) : ∃ k, L3.spec_CutIs.f k p = some (cutTextP p).2 := by
  refine Ev.ex (g := fun k => L3.spec_CutIs.f k p) ?_
  have hpi : ∀ k : Nat, spec_PlanIn.f p = some (planG p) := fun k => by unfold spec_PlanIn.f; rw [if_pos hp]
  have hPI : Ev (fun _ : Nat => spec_PlanIn.f p) (planG p) := ⟨0, fun k _ => hpi k⟩
  unfold cutTextP
  cases h : planG p with
  | false =>
    rw [h] at hPI
    refine hPI.bind (F := fun k t193 => _) ?_
    simp only [Bool.false_eq_true, if_false]
    exact Ev.const _
  | true =>
    obtain ⟨s, e, y⟩ := spec_text p h
    rw [h] at hPI
    refine hPI.bind (F := fun k t193 => _) ?_
    simp only [if_true]
    exact e.bind (Ev.const _)

/-! The names that a printed law takes. -/
def impl_CutText.f (l0 : List ByteArray) : Option (ByteArray × Bool) := if SmallP l0 then some (cutTextP l0) else none
theorem impl_CutText.calls (A0 : Option Addr) (c0 : Nat) (l0 : List ByteArray) (r1 : ByteArray) (r2 : Bool) (w : World) (hr0 : Kd.C Kd.string w A0 l0.length l0) (hc0 : l0.length ≤ c0) (h : impl_CutText.f l0 = some (r1, r2)) :
    Calls Try.prog 18 #[.slice A0 l0.length c0] w fun e w' => e = .returned (.tuple #[.string r1, .bool r2]) ∧ Below w.heap.size w w' := by
  unfold impl_CutText.f at h
  split at h
  · rename_i hb; injection h with h; have := cutText_any A0 c0 l0 hb w hr0 hc0; rw [h] at this; exact this
  · cases h
def spec_CutText.f (l0 : List ByteArray) : Option (ByteArray × Bool) := if SmallP l0 then some (cutTextP l0) else none
theorem spec_CutText.calls (A0 : Option Addr) (c0 : Nat) (l0 : List ByteArray) (r1 : ByteArray) (r2 : Bool) (w : World) (hr0 : Kd.C Kd.string w A0 l0.length l0) (hc0 : l0.length ≤ c0) (h : spec_CutText.f l0 = some (r1, r2)) :
    Calls Try.prog 16 #[.slice A0 l0.length c0] w fun e w' => e = .returned (.tuple #[.string r1, .bool r2]) ∧ Below w.heap.size w w' := by
  unfold spec_CutText.f at h
  split at h
  · rename_i hb
    injection h with h
    obtain ⟨k, hk⟩ := spec_CutText_f l0 hb
    rw [h] at hk
    exact L3.spec_CutText.calls k A0 c0 l0 r1 r2 w hr0 hc0 hk
  · cases h
def impl_CutIs.f (l0 : List ByteArray) : Option Bool := if SmallP l0 then some (cutIsP l0) else none
theorem impl_CutIs.calls (A0 : Option Addr) (c0 : Nat) (l0 : List ByteArray) (r : Bool) (w : World) (hr0 : Kd.C Kd.string w A0 l0.length l0) (hc0 : l0.length ≤ c0) (h : impl_CutIs.f l0 = some r) :
    Calls Try.prog 21 #[.slice A0 l0.length c0] w fun e w' => e = .returned (.bool r) ∧ Below w.heap.size w w' := by
  unfold impl_CutIs.f at h
  split at h
  · rename_i hb; injection h with h; have := cutIs_any A0 c0 l0 hb w hr0 hc0; rw [show (cutTextP l0).2 = r from h] at this; exact this
  · cases h
def spec_CutIs.f (l0 : List ByteArray) : Option Bool := if SmallP l0 then some (cutIsP l0) else none
theorem spec_CutIs.calls (A0 : Option Addr) (c0 : Nat) (l0 : List ByteArray) (r : Bool) (w : World) (hr0 : Kd.C Kd.string w A0 l0.length l0) (hc0 : l0.length ≤ c0) (h : spec_CutIs.f l0 = some r) :
    Calls Try.prog 20 #[.slice A0 l0.length c0] w fun e w' => e = .returned (.bool r) ∧ Below w.heap.size w w' := by
  unfold spec_CutIs.f at h
  split at h
  · rename_i hb
    injection h with h
    obtain ⟨k, hk⟩ := spec_CutIs_f l0 hb
    rw [show (cutTextP l0).2 = r from h] at hk
    exact L3.spec_CutIs.calls k A0 c0 l0 r w hr0 hc0 hk
  · cases h
end Go.Proofs.Ytiehiockjlhbcaa
