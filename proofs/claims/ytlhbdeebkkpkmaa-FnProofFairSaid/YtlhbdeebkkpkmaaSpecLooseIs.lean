/- The reference's ProofLooseIs: the same answer as the program's. Conditions: the text is of at most 1000000000 bytes, the list of as many numbers. -/
import Derived.Test.YtlhbdeebkkpkmaaSpecIs
namespace Go.Proofs.Ytlhbdeebkkpkmaa
open Go.RowKit Go.Shelf Go.Proofs.YtlhbdeebkkpkmaaW.PrintWords Go.Proofs.YtlhbdeebkkpkmaaW.PrintMore
set_option linter.unusedVariables false

theorem quiet_permIn {A : Option Addr} {c : Nat} {p : List Int} (hp : p.length ≤ 1000000000) {b : Nat} {w0 w : World} (hb : Below b w0 w) (n : Nat) (hr : Kd.C (Kd.int .i64) w0 A p.length p) (hw : b = w0.heap.size) (hc : p.length ≤ c) :
    Calls Try.prog 29 #[.slice A p.length c] (w.drewN n) fun e w'' => e = .returned (.bool (permInB p)) ∧ ∃ m, w'' = w.drewN m :=
  Calls.quiet_of ((specPermIn_any A c p hp (w.drewN n) (Kd.C_below hr (by subst hw; exact pw_below_drewN hb n)) hc).mono fun e w' ⟨he, hd⟩ => ⟨he, hd.out⟩)

set_option maxRecDepth 100000 in
set_option maxHeartbeats 4000000 in
theorem specLooseIs_any (A : Option Addr) (c : Nat) (p : List Int) (s : ByteArray) (hp : p.length ≤ 1000000000) (hs : s.size ≤ 1000000000) (w : World) (hr : Kd.C (Kd.int .i64) w A p.length p) (hc : p.length ≤ c) :
    Calls Try.prog 12 #[.slice A p.length c, .string s] w fun e w' => e = .returned (.bool (looseIsB p s)) ∧ Below w.heap.size w w' := by
  obtain ⟨r, hres⟩ : ∃ r, looseIsB p s = r := ⟨_, rfl⟩
  rw [hres]
  have HP := l12Read_any s wFour 4 (by decide) (by omega) hs w
  unfold wFour at HP
  cases hok : readOK s wFour 4 with
  | false =>
    have hf : r = false := by rw [← hres]; unfold looseIsB; rw [hok]; rfl
    subst hf
    clear hres
    have HK := Aside0.mk hok
    clear hok
    have HR := Aside0.mk hr
    clear hr
    go_enter Try.func12, Try.ntmps12
    go_wp2_with (go_at_call 31; refine HP.mono ?_; rintro e w1 ⟨v, rfl, hb1, _⟩; rw [show readOK s ⟨#[102, 111, 117, 114]⟩ 4 = false from HK.out])
    go_quiet (fail)
    go_wp2
    go_ret
    exact ⟨rfl, pw_below_drewN hb1 _⟩
  | true =>
    have hf : r = (permInB p && fourB p (dgt s 4 0) (dgt s 4 1) (dgt s 4 2) (dgt s 4 3)) := by rw [← hres]; unfold looseIsB; rw [hok]; rfl
    clear hres
    obtain ⟨d0, e0⟩ : ∃ d, dgt s 4 0 = d := ⟨_, rfl⟩
    obtain ⟨d1, e1⟩ : ∃ d, dgt s 4 1 = d := ⟨_, rfl⟩
    obtain ⟨d2, e2⟩ : ∃ d, dgt s 4 2 = d := ⟨_, rfl⟩
    obtain ⟨d3, e3⟩ : ∃ d, dgt s 4 3 = d := ⟨_, rfl⟩
    rw [e0, e1, e2, e3] at hf
    have HK := Aside0.mk hok
    have HR := Aside0.mk hr
    have HL := Aside0.mk (show digL s wFour.size 4 = [d0, d1, d2, d3] by rw [digL_four, e0, e1, e2, e3])
    clear hr hok e0 e1 e2 e3
    have hx : permInB p = false ∧ r = false ∨ permInB p = true ∧ r = fourB p d0 d1 d2 d3 := by
      cases hpm : permInB p
      · exact .inl ⟨rfl, by rw [hf, hpm]; rfl⟩
      · exact .inr ⟨rfl, by rw [hf, hpm, Bool.true_and]⟩
    clear hf
    have HX := Aside0.mk hx
    clear hx
    go_enter Try.func12, Try.ntmps12
    go_wp2_with (go_at_call 31; refine HP.mono ?_; rintro e w1 ⟨v, rfl, hb1, hR⟩; rw [show readOK s ⟨#[102, 111, 117, 114]⟩ 4 = true from HK.out]; replace hR := hR HK.out; rw [show digL s (ByteArray.mk #[102, 111, 117, 114]).size 4 = [d0, d1, d2, d3] from HL.out] at hR; obtain ⟨g, cv, rfl, hcv, hgb, hgl, hcells⟩ := R_cells hR (by simp); have f0 := hcells 0 d0 rfl; have f1 := hcells 1 d1 rfl; have f2 := hcells 2 d2 rfl; have f3 := hcells 3 d3 rfl; clear hcells hR; simp only [List.length_cons, List.length_nil, Nat.zero_add, Nat.reduceAdd] at hcv ⊢)
    rcases HX.out with ⟨hpm, hrr⟩ | ⟨hpm, hrr⟩
    · subst hrr
      go_quiet (first | (go_at_call 29; have := quiet_permIn (A := A) (c := c) hp hb1 (by assumption) HR.out rfl hc; rw [hpm] at this; exact this))
      go_wp2
      go_ret
      exact ⟨rfl, pw_below_drewN hb1 _⟩
    · have HQ := Aside0.mk hrr
      clear hrr
      go_quiet (first
        | (go_at_call 29; have := quiet_permIn (A := A) (c := c) hp hb1 (by assumption) HR.out rfl hc; rw [hpm] at this; exact this)
        | (go_at_call 32; exact Calls.quiet_of (four_any A c p d0 d1 d2 d3 hp _ (Kd.C_below HR.out (pw_below_drewN hb1 _)) hc)))
      go_wp2
      go_ret
      exact ⟨ret_bool HQ.out.symm, pw_below_drewN hb1 _⟩
end Go.Proofs.Ytlhbdeebkkpkmaa
