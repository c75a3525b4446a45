/- Texts of this claim's, joined by a program: SCutIsP, SExCut. -/
import Derived.Test.YtdhnjecbdclmaaaKSStuckByW
import Derived.Test.YtdhnjecbdclmaaaKSShelfM
import Derived.Test.YtdhnjecbdclmaaaKSSpecTextM
section
namespace Go.Proofs.Ytdhnjecbdclmaaa
open Go.RowKit Go.Shelf Go.Proofs.YtdhnjecbdclmaaaW.PrintWords Go.Proofs.YtdhnjecbdclmaaaW.PrintMore
set_option linter.unusedVariables false
set_option linter.unusedSimpArgs false
def preB (s p : ByteArray) : Bool := decide (p.size ≤ s.size) && ((s.extract 0 p.size).toList == p.toList)
def restW (s p : ByteArray) : ByteArray := if preB s p then s.extract p.size s.size else s
theorem restW_size (s p : ByteArray) : (restW s p).size ≤ s.size := by
  unfold restW
  split
  · rw [ByteArray.size_extract]; omega
  · exact Nat.le_refl _
theorem cutPrefix_any (s p : ByteArray) (w : World) :
    Calls Try.prog 92 #[.string s, .string p] w fun e w' => e = .returned (.tuple #[.string (restW s p), .bool (preB s p)]) ∧ Below w.heap.size w w' := by
  refine (Try.strings_CutPrefix s p w).mono ?_
  rintro e w' ⟨rfl, rfl⟩
  have h := Lib.hasPrefix_raw s p
  change preB s p = _ at h
  refine ⟨?_, Below.refl _ _⟩
  rw [← h]
  cases hb : preB s p with
  | true =>
    have hb2 := hb
    unfold preB at hb2
    rw [Bool.and_eq_true, decide_eq_true_iff] at hb2
    rw [Lib.trimPrefix_hit s p hb2.1 hb2.2]
    unfold restW; rw [hb]; rfl
  | false =>
    rw [Lib.trimPrefix_miss s p hb]
    unfold restW; rw [hb]; rfl
def proofCutIsP (p : List ByteArray) (s : ByteArray) : Int × Bool := if planG p then
    (if preB s wCut then (match cutTextO p with
      | some t => if (⟨t.toArray⟩ : ByteArray) = restW s wCut then (1, true) else (0, false)
      | none => (0, false))
    else (0, preB s wStuck && stuckByP (clP p) (boxesP p) (restW s wStuck)))
  else (0, false)
theorem Flat.fl {cl : Nat → Nat → Int} {boxes : List Box} {h wd : Nat} (f : Flat cl boxes h wd) : ∀ B ∈ boxes, BoxFl h wd B := by
  intro B hB
  obtain ⟨k, hk, rfl⟩ := List.getElem_of_mem hB
  obtain ⟨a, b, c, d, e, h1, h2, h3, h4, _⟩ := f.box k hk
  exact ⟨a, b, c, d, e, h1, h2, h3, h4⟩
set_option maxHeartbeats 8000000 in
theorem proofCutIs_any (A : Option Addr) (cap : Nat) (p : List ByteArray) (hp : SmallP p) (s : ByteArray) (hs : s.size ≤ 2000000) (w : World) (hr0 : Kd.C Kd.string w A p.length p) (hc0 : p.length ≤ cap) :
    Calls Try.prog 35 #[.slice A p.length cap, .string s] w fun e w' => e = .returned (.tuple #[.int .i64 (proofCutIsP p s).1, .bool (proofCutIsP p s).2]) ∧ Below w.heap.size w w' := by
  have HFL := floorOf_any A cap p hp.1 hp.2 w hr0 hc0
  have HCC := Aside0.mk (fun W => cutPrefix_any s wCut W)
  have HCS := Aside0.mk (fun W => cutPrefix_any s wStuck W)
  clear hr0
  unfold wCut at HCC
  unfold wStuck at HCS
  obtain ⟨r1, hr1⟩ : ∃ r, restW s ⟨#[99, 117, 116, 32]⟩ = r := ⟨_, rfl⟩
  obtain ⟨b1, hb1⟩ : ∃ b, preB s ⟨#[99, 117, 116, 32]⟩ = b := ⟨_, rfl⟩
  obtain ⟨r2, hr2⟩ : ∃ r, restW s ⟨#[115, 116, 117, 99, 107, 32]⟩ = r := ⟨_, rfl⟩
  obtain ⟨b2, hb2⟩ : ∃ b, preB s ⟨#[115, 116, 117, 99, 107, 32]⟩ = b := ⟨_, rfl⟩
  rw [hr1, hb1] at HCC
  rw [hr2, hb2] at HCS
  have HR2 : Aside0 (r2.size ≤ 2000000) := ⟨by rw [← hr2]; exact Nat.le_trans (restW_size _ _) hs⟩
  have HVAL : Aside0 (proofCutIsP p s = if planG p then (if b1 then (match cutTextO p with
      | some t => if (⟨t.toArray⟩ : ByteArray) = r1 then ((1 : Int), true) else ((0 : Int), false)
      | none => ((0 : Int), false))
    else ((0 : Int), b2 && stuckByP (clP p) (boxesP p) r2)) else (0, false)) := ⟨by unfold proofCutIsP wCut wStuck; rw [hr1, hb1, hr2, hb2]⟩
  clear hr1 hb1 hr2 hb2 hs
  go_enter Try.func35, Try.ntmps35
  go_wp2_with fail
  refine HFL.mono ?_
  rintro e w1 ⟨hb1, ⟨hpl, fb, base, rfl, hbase, hfl⟩ | ⟨hpl, o, rfl⟩⟩
  · have HB1 := Aside0.mk hb1
    have F := Aside0.mk (planFlat hpl)
    have hR := hfl.reads
    have hh := (planFlat hpl).high
    have hw := (planFlat hpl).wide
    have HWH := Aside0.mk (fun W (hW : Below w1.heap.size w1 W) => whole_any fb p.length (wdP p) (clP p) (boxesP p) W (hR.below hW) (by omega) (by omega))
    have HTX := Aside0.mk (fun W (hW : Below w1.heap.size w1 W) => text_of fb p.length (wdP p) (clP p) (boxesP p) hh.2 hw.2 F.out.boxIn F.out.few 0 0 p.length (wdP p) (by omega) (by omega) W (hR.below hW))
    have HSB := Aside0.mk (fun W (hW : Below w1.heap.size w1 W) => stuckBy_any fb p.length (wdP p) (clP p) (boxesP p) W (hR.below hW) hh.2 hw.2 F.out.few F.out.fl r2 HR2.out)
    obtain ⟨o, ho⟩ : ∃ o, textL (clP p) (boxesP p) 13 (0, 0, p.length, wdP p) = o := ⟨_, rfl⟩
    rw [ho] at HTX
    rw [hpl, show cutTextO p = o from ho] at HVAL
    obtain ⟨sb, hsb⟩ : ∃ x, stuckByP (clP p) (boxesP p) r2 = x := ⟨_, rfl⟩
    rw [hsb] at HVAL HSB
    clear hb1 hpl hfl hR ho hsb
    go_wp2_with fail
    refine (HCC.out _).mono ?_
    rintro e w2 ⟨rfl, hb2⟩
    have HB2 := Aside0.mk hb2
    clear hb2
    cases b1 with
    | true =>
      go_wp2_with fail
      refine (HWH.out _ HB2.out).mono ?_
      rintro e w3 ⟨rfl, hb3⟩
      have HB3 := Aside0.mk (HB2.out.trans (hb3.mono HB2.out.size))
      clear hb3
      go_wp2_with fail
      refine (HTX.out _ HB3.out).mono ?_
      rintro e w4 ⟨rfl, hb4⟩
      have HB4 := Aside0.mk (HB3.out.trans (hb4.mono HB3.out.size))
      clear hb4
      unfold textV
      cases o with
      | none =>
        have HV : Aside0 (proofCutIsP p s = (0, false)) := ⟨HVAL.out⟩
        simp only [Option.getD_none, Option.isSome_none]
        go_wp2_with fail
        go_ret2
        exact ⟨by rw [HV.out]; rfl, HB1.out.trans (HB4.out.mono HB1.out.size)⟩
      | some t =>
        simp only [Option.getD_some, Option.isSome_some]
        by_cases he : (⟨t.toArray⟩ : ByteArray) = r1
        · have HV : Aside0 (proofCutIsP p s = (1, true)) := ⟨HVAL.out.trans (if_pos he)⟩
          rw [he]
          clear he
          go_wp2_with fail
          go_ret2
          exact ⟨by rw [HV.out]; rfl, HB1.out.trans (HB4.out.mono HB1.out.size)⟩
        · have HV : Aside0 (proofCutIsP p s = (0, false)) := ⟨HVAL.out.trans (if_neg he)⟩
          obtain ⟨T, hT⟩ : ∃ T : ByteArray, ⟨t.toArray⟩ = T := ⟨_, rfl⟩
          rw [hT] at he ⊢
          clear hT
          have he2 : (T.toList == r1.toList) = false := by
            rw [beq_eq_false_iff_ne, ByteArray.toList_eq, ByteArray.toList_eq]
            exact fun e => he (ByteArray.ext (Array.ext' e))
          clear he
          go_wp2_with fail
          go_ret2
          exact ⟨by rw [HV.out]; rfl, HB1.out.trans (HB4.out.mono HB1.out.size)⟩
    | false =>
      go_wp2_with fail
      refine (HCS.out _).mono ?_
      rintro e w3 ⟨rfl, hb3⟩
      have HB3 := Aside0.mk (HB2.out.trans (hb3.mono HB2.out.size))
      clear hb3
      cases b2 with
      | true =>
        have HV : Aside0 (proofCutIsP p s = (0, sb)) := ⟨by rw [HVAL.out]; rfl⟩
        go_wp2_with fail
        refine (HSB.out _ HB3.out).mono ?_
        rintro e w4 ⟨rfl, hb4⟩
        have HB4 := Aside0.mk (HB3.out.trans (hb4.mono HB3.out.size))
        clear hb4
        go_wp2_with fail
        go_ret2
        exact ⟨by rw [HV.out]; rfl, HB1.out.trans (HB4.out.mono HB1.out.size)⟩
      | false =>
        have HV : Aside0 (proofCutIsP p s = (0, false)) := ⟨by rw [HVAL.out]; rfl⟩
        go_wp2_with fail
        go_ret2
        exact ⟨by rw [HV.out]; rfl, HB1.out.trans (HB3.out.mono HB1.out.size)⟩
  · have HB1 := Aside0.mk hb1
    have HV : Aside0 (proofCutIsP p s = (0, false)) := ⟨by rw [HVAL.out, hpl]; rfl⟩
    clear hb1 hpl
    go_wp2_with fail
    go_ret2
    exact ⟨by rw [HV.out]; rfl, HB1.out⟩
end Go.Proofs.Ytdhnjecbdclmaaa
end
section
namespace Go.Proofs.Ytdhnjecbdclmaaa
open Go.RowKit Go.Shelf Go.Proofs.YtdhnjecbdclmaaaW.PrintWords Go.Proofs.YtdhnjecbdclmaaaW.PrintMore
set_option linter.unusedVariables false
open Classical in
noncomputable def tot {α : Type} (g : Nat → Option α) : Option α := if h : ∃ r, Ev g r then some h.choose else none
theorem Ev.uniq {α : Type} {g : Nat → Option α} {r s : α} (h : Ev g r) (k : Ev g s) : r = s := by
  obtain ⟨a, h⟩ := h
  obtain ⟨b, k⟩ := k
  exact Option.some.inj ((h (a + b) (by omega)).symm.trans (k (a + b) (by omega)))
theorem tot_ev {α : Type} {g : Nat → Option α} {r : α} (h : Ev g r) : tot g = some r := by
  unfold tot
  rw [dif_pos ⟨r, h⟩]
  exact congrArg some (Ev.uniq (Exists.choose_spec (⟨r, h⟩ : ∃ r, Ev g r)) h)
theorem tot_ex {α : Type} {g : Nat → Option α} {r : α} (h : tot g = some r) : ∃ k, g k = some r := by
  unfold tot at h
  split at h
  · rename_i hx
    have := hx.choose_spec
    rw [Option.some.inj h] at this
    exact this.ex
  · cases h
noncomputable def spec_l3One.f (l0 : List ByteArray) : Option (Bool) := tot fun k => L3.spec_l3One.f k l0
theorem spec_l3One.calls (A0 : Option Addr) (c0 : Nat) (l0 : List ByteArray) (r : Bool) (w : World) (hr0 : Kd.C Kd.string w A0 l0.length l0) (hc0 : l0.length ≤ c0) (h : spec_l3One.f l0 = some r) :
    Calls Try.prog 169 #[.slice A0 l0.length c0] w fun e w' => e = .returned (.bool r) ∧ Below w.heap.size w w' := by
  obtain ⟨k, hk⟩ := tot_ex h
  exact (L3.spec_l3One.calls k A0 c0 l0 r w hr0 hc0 hk).mono fun e w' ⟨he, n, hw⟩ => ⟨he, by rw [hw]; exact pw_below_drewN (Below.refl _ _) _⟩
noncomputable def spec_l3Cut.f (l0 : List ByteArray) : Option (Int × Int) := tot fun k => L3.spec_l3Cut.f k l0
theorem spec_l3Cut.calls (A0 : Option Addr) (c0 : Nat) (l0 : List ByteArray) (r1 : Int) (r2 : Int) (w : World) (hr0 : Kd.C Kd.string w A0 l0.length l0) (hc0 : l0.length ≤ c0) (h : spec_l3Cut.f l0 = some (r1, r2)) :
    Calls Try.prog 170 #[.slice A0 l0.length c0] w fun e w' => e = .returned (.tuple #[.int .i64 r1, .int .i64 r2]) ∧ Below w.heap.size w w' := by
  obtain ⟨k, hk⟩ := tot_ex h
  exact L3.spec_l3Cut.calls k A0 c0 l0 r1 r2 w hr0 hc0 hk
noncomputable def spec_l3Text.f (l0 : List ByteArray) : Option (ByteArray × Bool) := tot fun k => L3.spec_l3Text.f k l0
theorem spec_l3Text.calls (A0 : Option Addr) (c0 : Nat) (l0 : List ByteArray) (r1 : ByteArray) (r2 : Bool) (w : World) (hr0 : Kd.C Kd.string w A0 l0.length l0) (hc0 : l0.length ≤ c0) (h : spec_l3Text.f l0 = some (r1, r2)) :
    Calls Try.prog 91 #[.slice A0 l0.length c0] w fun e w' => e = .returned (.tuple #[.string r1, .bool r2]) ∧ Below w.heap.size w w' := by
  obtain ⟨k, hk⟩ := tot_ex h
  exact L3.spec_l3Text.calls k A0 c0 l0 r1 r2 w hr0 hc0 hk
noncomputable def spec_l1Rooms.f (l0 : List ByteArray) : Option (Int) := tot fun k => L2.spec_l1Rooms.f k l0
theorem spec_l1Rooms.calls (A0 : Option Addr) (c0 : Nat) (l0 : List ByteArray) (r : Int) (w : World) (hr0 : Kd.C Kd.string w A0 l0.length l0) (hc0 : l0.length ≤ c0) (h : spec_l1Rooms.f l0 = some r) :
    Calls Try.prog 101 #[.slice A0 l0.length c0] w fun e w' => e = .returned (.int .i64 r) ∧ Below w.heap.size w w' := by
  obtain ⟨k, hk⟩ := tot_ex h
  exact L2.spec_l1Rooms.calls k A0 c0 l0 r w hr0 hc0 hk
noncomputable def spec_l1Cells.f (l0 : List ByteArray) (a1 : Int) : Option (Int) := tot fun k => L2.spec_l1Cells.f k l0 a1
theorem spec_l1Cells.calls (A0 : Option Addr) (c0 : Nat) (l0 : List ByteArray) (a1 : Int) (r : Int) (w : World) (hr0 : Kd.C Kd.string w A0 l0.length l0) (hc0 : l0.length ≤ c0) (h : spec_l1Cells.f l0 a1 = some r) :
    Calls Try.prog 102 #[.slice A0 l0.length c0, .int .i64 a1] w fun e w' => e = .returned (.int .i64 r) ∧ Below w.heap.size w w' := by
  obtain ⟨k, hk⟩ := tot_ex h
  exact (L2.spec_l1Cells.calls k A0 c0 l0 a1 r w hr0 hc0 hk).mono fun e w' ⟨he, n, hw⟩ => ⟨he, by rw [hw]; exact pw_below_drewN (Below.refl _ _) _⟩
noncomputable def spec_l1Room.f (l0 : List ByteArray) (a1 : Int) : Option (Int × Int × Int × Int) := tot fun k => L2.spec_l1Room.f k l0 a1
theorem spec_l1Room.calls (A0 : Option Addr) (c0 : Nat) (l0 : List ByteArray) (a1 : Int) (r1 : Int) (r2 : Int) (r3 : Int) (r4 : Int) (w : World) (hr0 : Kd.C Kd.string w A0 l0.length l0) (hc0 : l0.length ≤ c0) (h : spec_l1Room.f l0 a1 = some (r1, r2, r3, r4)) :
    Calls Try.prog 152 #[.slice A0 l0.length c0, .int .i64 a1] w fun e w' => e = .returned (.tuple #[.int .i64 r1, .int .i64 r2, .int .i64 r3, .int .i64 r4]) ∧ Below w.heap.size w w' := by
  obtain ⟨k, hk⟩ := tot_ex h
  exact L2.spec_l1Room.calls k A0 c0 l0 a1 r1 r2 r3 r4 w hr0 hc0 hk
end Go.Proofs.Ytdhnjecbdclmaaa
end
