/- Texts of this claim's, joined by a program: CPlanRooms, CTurned. -/
import Derived.Test.YtbpppchkgjcahaaKCFloorRM
import Derived.Test.YtbpppchkgjcahaaKCRemade
section
namespace Go.Proofs.Ytbpppchkgjcahaa
open Go.RowKit Go.Shelf Go.Proofs.YtbpppchkgjcahaaW.PrintWords Go.Proofs.YtbpppchkgjcahaaW.PrintMore
set_option linter.unusedVariables false
set_option linter.unusedSimpArgs false
def roomsP (p : List ByteArray) : Int × Bool := if planG p then (((boxesP p).length : Int), true) else (0, false)
set_option maxHeartbeats 4000000 in
theorem planRooms_any (A : Option Addr) (cap : Nat) (p : List ByteArray) (hp : SmallP p) (w : World) (hr0 : Kd.C Kd.string w A p.length p) (hc0 : p.length ≤ cap) :
    Calls Try.prog 27 #[.slice A p.length cap] w fun e w' => e = .returned (.tuple #[.int .i64 (roomsP p).1, .bool (roomsP p).2]) ∧ Below w.heap.size w w' := by
  have HFL := floorOf_any A cap p hp.1 hp.2 w hr0 hc0
  clear hr0
  go_enter Try.func27, Try.ntmps27
  go_wp2_with fail
  refine HFL.mono ?_
  rintro e w1 ⟨hb1, ⟨hpl, fb, base, rfl, hbase, hfl⟩ | ⟨hpl, o, rfl⟩⟩
  · have HB1 := Aside0.mk hb1
    obtain ⟨g, rb, RA, rc, h1, h2, h3, h4, h5, h6⟩ := hfl.reads
    have HV : Aside0 (roomsP p = (((boxesP p).length : Int), true)) := ⟨by unfold roomsP; rw [if_pos hpl]⟩
    clear hb1 hpl hfl h5 h6
    go_wp2_with fail
    go_ret2
    exact ⟨by rw [HV.out]; rfl, HB1.out⟩
  · have HB1 := Aside0.mk hb1
    have HV : Aside0 (roomsP p = (0, false)) := ⟨by unfold roomsP; rw [hpl]; rfl⟩
    clear hb1 hpl
    go_wp2_with fail
    go_ret2
    exact ⟨by rw [HV.out]; rfl, HB1.out⟩
end Go.Proofs.Ytbpppchkgjcahaa
end
section
namespace Go.Proofs.Ytbpppchkgjcahaa
open Go.RowKit Go.Shelf Go.Proofs.YtbpppchkgjcahaaW.PrintWords Go.Proofs.YtbpppchkgjcahaaW.PrintMore
set_option linter.unusedVariables false
def MadeE (cl : Nat → Nat → Int) (h wd : Nat) (w w' : World) (e : Ending) : Prop := ∃ (q : List ByteArray) (A : Option Addr) (c : Nat), e = .returned (.tuple #[.slice A q.length c, .bool true]) ∧ Aside0 (Planned cl h wd q ∧ SmallP q ∧ q.length ≤ c ∧ Kd.C Kd.string w' A q.length q ∧ Below w.heap.size w w')
theorem RemadeE.made {cl : Nat → Nat → Int} {h wd : Nat} {p : List ByteArray} {R : List (List Int)} {w w' : World} {e : Ending} (hp : planG p = true) (hq : ∃ q, planV R = (q, true) ∧ Planned cl h wd q) (hr : RemadeE p R w w' e) : MadeE cl h wd w w' e := by
  obtain ⟨q, hv, hpl⟩ := hq
  obtain ⟨⟨A, c, V, hV, he, hc, hC⟩, hb⟩ := hr
  rw [if_pos hp, hv] at hV
  subst hV
  exact ⟨q, A, c, he, ⟨hpl, plan_small hpl.plan, hc, hC, hb⟩⟩
theorem planFlip_is (A : Option Addr) (cap : Nat) (p : List ByteArray) (hp : SmallP p) (hpl : planG p = true) (w : World) (hr0 : Kd.C Kd.string w A p.length p) (hc0 : p.length ≤ cap) :
    Calls Try.prog 28 #[.slice A p.length cap] w fun e w' => MadeE (fun r c => clP p r (wdP p - 1 - c)) p.length (wdP p) w w' e :=
  (planFlip_any A cap p hp w hr0 hc0).mono fun e w' h => RemadeE.made hpl (flip_plan hpl) h
end Go.Proofs.Ytbpppchkgjcahaa
end
