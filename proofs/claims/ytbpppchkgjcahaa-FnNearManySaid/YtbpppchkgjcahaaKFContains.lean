/- slices.ContainsFunc on the rows of a grid, with a function that only reads. Conditions: few rows. -/
import Derived.Test.YtbpppchkgjcahaaKFBlank
namespace Go.Proofs.Ytbpppchkgjcahaa
open Go.RowKit Go.Shelf Go.Proofs.YtbpppchkgjcahaaW.PrintWords Go.Proofs.YtbpppchkgjcahaaW.PrintMore
set_option linter.unusedVariables false
def Tells (h : Nat) (p : Nat → Bool) (e : Ending) : Prop := ∃ k : Int, e = .returned (.int .i64 k) ∧ decide (0 ≤ k) = (List.range h).any p
theorem any_upto {p : Nat → Bool} {n h : Nat} (hn : n < h) (hp : p n = true) : (List.range h).any p = true := by
  rw [List.any_eq_true]
  exact ⟨n, List.mem_range.2 hn, hp⟩
set_option maxRecDepth 100000 in
set_option maxHeartbeats 4000000 in
theorem index_any (gb h ch : Nat) (hh : h ≤ 1000) (vals : Nat → Value) (p : Nat → Bool) (cl : Nat) (cap : Array Value) (w : World) (hcells : ∀ r, r < h → w.cell? ⟨gb, r, none⟩ = some (vals r)) (hent : ∀ args W, (callFunc cl args).run Try.prog W = .ok (.enter cl args) W)
    (hcall : ∀ r, r < h → Calls Try.prog cl (#[vals r] ++ cap) w fun e w' => e = .returned (.bool (p r)) ∧ w = w') :
    Calls Try.prog 187 #[.slice (some ⟨gb, 0, none⟩) h ch, .func (.func cl) #[] cap] w fun e w' => Tells h p e ∧ w = w' := by
  have HC := Aside0.mk hcells
  have HF := Aside0.mk hcall
  clear hcells hcall
  go_enter Try.func187, Try.ntmps187
  go_wp2
  go_loop [8] (fun i => ∃ r : Nat, i = .int .i64 r ∧ r ≤ h ∧ Aside0 (∀ k, k < r → p k = false)) (fun i => h - (intOf i).toNat)
  case atStart => exact ⟨0, rfl, by omega, ⟨fun k hk => absurd hk (by omega)⟩⟩
  case round =>
    obtain ⟨r, rfl, hr, HP⟩ := hrel
    by_cases hlt : (r : Int) < (h : Int)
    · have hc := HC.out r (by omega)
      have hr0 : (0 : Int) ≤ (r : Int) := by omega
      cases hp : p r with
      | true =>
        go_wp2_with (refine Calls.mono (HF.out r (by omega)) ?_; rintro e w' ⟨rfl, rfl⟩; rw [hp])
        go_ret
        exact ⟨⟨_, rfl, by rw [any_upto (by omega) hp]; exact decide_eq_true hr0⟩, rfl⟩
      | false =>
        go_wp2_with (refine Calls.mono (HF.out r (by omega)) ?_; rintro e w' ⟨rfl, rfl⟩; rw [hp])
        go_round
        case rel => exact ⟨r + 1, by go_num, by omega, ⟨fun k hk => if e : k = r then by rw [e]; exact hp else HP.out k (by omega)⟩⟩
        case measure => simp [intOf]; omega
    · have hrh : r = h := by omega
      subst hrh
      go_wp2
      go_ret
      refine ⟨⟨_, rfl, ?_⟩, rfl⟩
      have : (List.range r).any p = false := by
        rw [List.any_eq_false]
        intro k hk
        rw [HP.out k (List.mem_range.1 hk)]; simp
      rw [this]; rfl
theorem contains_any (gb h ch : Nat) (hh : h ≤ 1000) (vals : Nat → Value) (p : Nat → Bool) (cl : Nat) (cap : Array Value) (w : World) (hcells : ∀ r, r < h → w.cell? ⟨gb, r, none⟩ = some (vals r)) (hent : ∀ args W, (callFunc cl args).run Try.prog W = .ok (.enter cl args) W)
    (hcall : ∀ r, r < h → Calls Try.prog cl (#[vals r] ++ cap) w fun e w' => e = .returned (.bool (p r)) ∧ w = w') :
    Calls Try.prog 199 #[.slice (some ⟨gb, 0, none⟩) h ch, .func (.func cl) #[] cap] w fun e w' => e = .returned (.bool ((List.range h).any p)) ∧ w = w' := by
  have HI := index_any gb h ch hh vals p cl cap w hcells hent hcall
  clear hcells hcall hent
  go_enter Try.func199, Try.ntmps199
  go_wp2_with fail
  refine HI.mono ?_
  rintro e w' ⟨⟨k, rfl, hk⟩, rfl⟩
  have HK := Aside0.mk hk
  clear hk
  go_wp2_with fail
  go_ret
  exact ⟨by rw [← HK.out]; rfl, rfl⟩
theorem long_any (A : Option Addr) (n c : Nat) (b4 : Nat) (wide : Int) (w : World) (h4 : w.cell? ⟨b4, 0, none⟩ = some (.int .i64 wide)) :
    Calls Try.prog 200 #[.slice A n c, .pointer (some ⟨b4, 0, none⟩)] w fun e w' => e = .returned (.bool (decide ((n : Int) ≠ wide))) ∧ w = w' := by
  by_cases hw : (n : Int) = wide
  · have h1 : ((n : Int) == wide) = true := by simpa using hw
    have h2 : ((n : Int) != wide) = false := by simpa using hw
    have HW := Aside0.mk hw
    clear hw
    go_enter Try.func200, Try.ntmps200
    go_wp2
    go_ret
    exact ⟨by rw [decide_eq_false (fun h => h HW.out)]; rfl, rfl⟩
  · have h1 : ((n : Int) == wide) = false := by simpa using hw
    have h2 : ((n : Int) != wide) = true := by simpa using hw
    have HW := Aside0.mk hw
    clear hw
    go_enter Try.func200, Try.ntmps200
    go_wp2
    go_ret
    exact ⟨by rw [decide_eq_true HW.out]; rfl, rfl⟩
end Go.Proofs.Ytbpppchkgjcahaa
