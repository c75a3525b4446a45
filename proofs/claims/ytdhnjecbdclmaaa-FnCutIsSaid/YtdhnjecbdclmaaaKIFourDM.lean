/- Texts of this claim's, joined by a program: IFourD, ISpecPoints, IPtsP, ITightP, ICutTight, IContD. -/
import Derived.Lib.SlicesCompact
import Derived.Test.YtdhnjecbdclmaaaKISpecCutB
import Derived.Test.YtdhnjecbdclmaaaKIL7x
import Derived.Test.YtdhnjecbdclmaaaKIFlat
import Derived.Test.YtdhnjecbdclmaaaKISpecWaysM
import Derived.Test.YtdhnjecbdclmaaaKIRemade
import Derived.Test.YtdhnjecbdclmaaaKIContains
import Derived.Deep.QuietTactic
import Derived.BigQuiet
section
namespace Go.Proofs.Ytdhnjecbdclmaaa
open Go.Lib (compact compactUpTo compactUpTo_succ keeps)
end Go.Proofs.Ytdhnjecbdclmaaa
end
section
namespace Go.Proofs.Ytdhnjecbdclmaaa
open Go.RowKit Go.Shelf Go.Proofs.YtdhnjecbdclmaaaW.PrintWords Go.Proofs.YtdhnjecbdclmaaaW.PrintMore
set_option linter.unusedVariables false
set_option linter.unusedSimpArgs false
end Go.Proofs.Ytdhnjecbdclmaaa
end
section
namespace Go.Proofs.Ytdhnjecbdclmaaa
open Go.RowKit Go.Shelf Go.Proofs.YtdhnjecbdclmaaaW.PrintWords Go.Proofs.YtdhnjecbdclmaaaW.PrintMore
set_option linter.unusedVariables false
set_option linter.unusedSimpArgs false
def x2 (p q : Bool) : Nat := if p = q then 0 else 1
def b1 (p : Bool) : Nat := if p then 1 else 0
end Go.Proofs.Ytdhnjecbdclmaaa
end
section
namespace Go.Proofs.Ytdhnjecbdclmaaa
set_option linter.unusedSectionVars false
open Go.RowKit Go.Shelf Go.Proofs.YtdhnjecbdclmaaaW.PrintWords Go.Proofs.YtdhnjecbdclmaaaW.PrintMore
set_option linter.unusedVariables false
set_option linter.unusedSimpArgs false
section
variable (kept : Nat → Bool)
def phi : Nat → Nat
  | 0 => 0
  | i + 1 => phi i + if kept (i + 1) = true then 1 else 0
def top : Nat → Nat
  | 0 => 0
  | i + 1 => if kept (i + 1) = true then i + 1 else top i
def keptL (n : Nat) : List Nat := (List.range n).filter kept
theorem phi_step (i : Nat) : phi kept (i + 1) = phi kept i ∨ phi kept (i + 1) = phi kept i + 1 := by
  show phi kept i + (if kept (i + 1) = true then 1 else 0) = _ ∨ phi kept i + (if kept (i + 1) = true then 1 else 0) = _
  by_cases h : kept (i + 1) = true
  · rw [if_pos h]; exact .inr rfl
  · rw [if_neg h]; exact .inl rfl
theorem top_le : ∀ i, top kept i ≤ i := by
  intro i
  induction i with
  | zero => exact Nat.le_refl _
  | succ i ih => unfold top; split <;> omega
variable (h0 : kept 0 = true)
include h0
theorem keptL_at : ∀ n, (keptL kept (n + 1)).length = phi kept n + 1 ∧ ∀ i, i < n + 1 → (keptL kept (n + 1))[phi kept i]? = some (top kept i) := by
  intro n
  induction n with
  | zero =>
    have e : keptL kept 1 = [0] := by unfold keptL; rw [show List.range 1 = [0] from rfl, List.filter_cons, if_pos h0]; rfl
    rw [e]
    refine ⟨rfl, fun i hi => ?_⟩
    obtain rfl : i = 0 := by omega
    rfl
  | succ n ih =>
    obtain ⟨h1, h2⟩ := ih
    have e : keptL kept (n + 1 + 1) = keptL kept (n + 1) ++ if kept (n + 1) = true then [n + 1] else [] := by
      unfold keptL
      rw [List.range_succ, List.filter_append]
      congr 1
      by_cases h : kept (n + 1) = true
      · rw [if_pos h, List.filter_cons, if_pos h]; rfl
      · rw [if_neg h, List.filter_cons, if_neg h]; rfl
    have mono : ∀ i, i < n + 1 → phi kept i < (keptL kept (n + 1)).length := fun i hi => by
      have := h2 i hi
      exact (List.getElem?_eq_some_iff.1 this).1
    rw [e]
    by_cases h : kept (n + 1) = true
    · rw [if_pos h]
      have ep : phi kept (n + 1) = phi kept n + 1 := by conv => lhs; unfold phi; rw [if_pos h]
      have et : top kept (n + 1) = n + 1 := by conv => lhs; unfold top; rw [if_pos h]
      refine ⟨by rw [List.length_append, h1, ep]; rfl, fun i hi => ?_⟩
      by_cases hi2 : i < n + 1
      · rw [List.getElem?_append_left (mono i hi2)]; exact h2 i hi2
      · obtain rfl : i = n + 1 := by omega
        rw [ep, ← h1, List.getElem?_append_right (Nat.le_refl _), Nat.sub_self, et]; rfl
    · rw [if_neg h, List.append_nil]
      have ep : phi kept (n + 1) = phi kept n := by conv => lhs; unfold phi; rw [if_neg h, Nat.add_zero]
      have et : top kept (n + 1) = top kept n := by conv => lhs; unfold top; rw [if_neg h]
      refine ⟨by rw [h1, ep], fun i hi => ?_⟩
      by_cases hi2 : i < n + 1
      · exact h2 i hi2
      · obtain rfl : i = n + 1 := by omega
        rw [ep, et]; exact h2 n (by omega)
theorem kept_hit : ∀ n x, x < phi kept n + 1 → 1 ≤ x → ∃ i, 1 ≤ i ∧ i ≤ n ∧ phi kept i = x ∧ phi kept (i - 1) = x - 1 ∧ top kept i = i := by
  intro n
  induction n with
  | zero => intro x hx h1; have : phi kept 0 = 0 := rfl; omega
  | succ n ih =>
    intro x hx h1
    by_cases h : kept (n + 1) = true
    · have ep : phi kept (n + 1) = phi kept n + 1 := by conv => lhs; unfold phi; rw [if_pos h]
      by_cases hx2 : x < phi kept n + 1
      · obtain ⟨i, a, b, c⟩ := ih x hx2 h1
        exact ⟨i, a, by omega, c⟩
      · have et : top kept (n + 1) = n + 1 := by conv => lhs; unfold top; rw [if_pos h]
        exact ⟨n + 1, by omega, Nat.le_refl _, by omega, by rw [show n + 1 - 1 = n by omega]; omega, et⟩
    · have ep : phi kept (n + 1) = phi kept n := by conv => lhs; unfold phi; rw [if_neg h, Nat.add_zero]
      rw [ep] at hx
      obtain ⟨i, a, b, c⟩ := ih x hx h1
      exact ⟨i, a, by omega, c⟩
end
def keptR (cl : Nat → Nat → Int) (wd i : Nat) : Bool := decide (i = 0) || (List.range wd).any fun j => cl i j != cl (i - 1) j
def keptC (cl : Nat → Nat → Int) (h j : Nat) : Bool := decide (j = 0) || (List.range h).any fun i => cl i j != cl i (j - 1)
theorem row_top (cl : Nat → Nat → Int) (wd : Nat) : ∀ i j, j < wd → cl (top (keptR cl wd) i) j = cl i j := by
  intro i
  induction i with
  | zero => intro j hj; rfl
  | succ i ih =>
    intro j hj
    by_cases h : keptR cl wd (i + 1) = true
    · unfold top; rw [if_pos h]
    · conv => lhs; unfold top
      rw [if_neg h, ih j hj]
      have hf : keptR cl wd (i + 1) = false := by simpa using h
      unfold keptR at hf
      rw [Bool.or_eq_false_iff] at hf
      have := List.any_eq_false.1 hf.2 j (List.mem_range.2 hj)
      exact Classical.byContradiction fun hne => this (bne_iff_ne.2 fun e => hne e.symm)
theorem col_top (cl : Nat → Nat → Int) (h : Nat) (i j : Nat) (hi : i < h) : cl i (top (keptC cl h) j) = cl i j := row_top (fun i j => cl j i) h j i hi
def tightV (cl : Nat → Nat → Int) (h wd : Nat) (r c : Nat) : Int := cl ((keptL (keptR cl wd) h).getD r 0) ((keptL (keptC cl h) wd).getD c 0)
def tightH (cl : Nat → Nat → Int) (h wd : Nat) : Nat := (keptL (keptR cl wd) h).length
def tightW (cl : Nat → Nat → Int) (h wd : Nat) : Nat := (keptL (keptC cl h) wd).length
theorem tight_at {cl : Nat → Nat → Int} {h wd i j : Nat} (hi : i < h) (hj : j < wd) : tightV cl h wd (phi (keptR cl wd) i) (phi (keptC cl h) j) = cl i j := by
  obtain ⟨H, rfl⟩ : ∃ H, h = H + 1 := ⟨h - 1, by omega⟩
  obtain ⟨W, rfl⟩ : ∃ W, wd = W + 1 := ⟨wd - 1, by omega⟩
  have h1 := (keptL_at (keptR cl (W + 1)) rfl H).2 i hi
  have h2 := (keptL_at (keptC cl (H + 1)) rfl W).2 j hj
  unfold tightV
  rw [List.getD_eq_getElem?_getD, List.getD_eq_getElem?_getD, h1, h2]
  show cl (top _ i) (top _ j) = _
  rw [row_top cl (W + 1) i _ (Nat.lt_of_le_of_lt (top_le _ _) hj), col_top cl (H + 1) i j hi]
theorem tightH_eq (cl : Nat → Nat → Int) {h : Nat} (wd : Nat) (hh : 1 ≤ h) : tightH cl h wd = phi (keptR cl wd) (h - 1) + 1 := by
  obtain ⟨H, rfl⟩ : ∃ H, h = H + 1 := ⟨h - 1, by omega⟩
  exact (keptL_at (keptR cl wd) rfl H).1
theorem tightW_eq (cl : Nat → Nat → Int) (h : Nat) {wd : Nat} (hw : 1 ≤ wd) : tightW cl h wd = phi (keptC cl h) (wd - 1) + 1 := by
  obtain ⟨W, rfl⟩ : ∃ W, wd = W + 1 := ⟨wd - 1, by omega⟩
  exact (keptL_at (keptC cl h) rfl W).1
theorem tightH_le (cl : Nat → Nat → Int) (h wd : Nat) : tightH cl h wd ≤ h := by
  unfold tightH keptL
  exact Nat.le_trans (List.length_filter_le _ _) (by rw [List.length_range]; exact Nat.le_refl _)
theorem tightW_le (cl : Nat → Nat → Int) (h wd : Nat) : tightW cl h wd ≤ wd := by
  unfold tightW keptL
  exact Nat.le_trans (List.length_filter_le _ _) (by rw [List.length_range]; exact Nat.le_refl _)
theorem phi_onto {kept : Nat → Bool} (h0 : kept 0 = true) {n x : Nat} (hx : x < phi kept n + 1) : ∃ i, i ≤ n ∧ phi kept i = x := by
  by_cases h : x = 0
  · exact ⟨0, Nat.zero_le _, h.symm⟩
  · obtain ⟨i, a, b, c, _⟩ := kept_hit kept h0 n x hx (by omega)
    exact ⟨i, b, c⟩
theorem flat_tight {cl : Nat → Nat → Int} {boxes : List Box} {h wd : Nat} (f : Flat cl boxes h wd) : ∃ boxes', Flat (tightV cl h wd) boxes' (tightH cl h wd) (tightW cl h wd) := by
  have hh := f.high
  have hw := f.wide
  obtain ⟨φ, hφ⟩ : ∃ φ, phi (keptR cl wd) = φ := ⟨_, rfl⟩
  obtain ⟨ψ, hψ⟩ : ∃ ψ, phi (keptC cl h) = ψ := ⟨_, rfl⟩
  have eH := tightH_eq cl wd hh.1
  have eW := tightW_eq cl h hw.1
  have sφ : ∀ i, φ (i + 1) = φ i ∨ φ (i + 1) = φ i + 1 := by rw [← hφ]; exact phi_step _
  have sψ : ∀ i, ψ (i + 1) = ψ i ∨ ψ (i + 1) = ψ i + 1 := by rw [← hψ]; exact phi_step _
  have hat : ∀ i j, i < h → j < wd → tightV cl h wd (φ i) (ψ j) = cl i j := by rw [← hφ, ← hψ]; exact fun i j a b => tight_at a b
  have oR : ∀ x, x < tightH cl h wd → ∃ i, i < h ∧ φ i = x := by
    intro x hx
    rw [eH] at hx
    obtain ⟨i, a, b⟩ := phi_onto (kept := keptR cl wd) rfl hx
    exact ⟨i, by omega, by rw [← hφ]; exact b⟩
  have oC : ∀ y, y < tightW cl h wd → ∃ j, j < wd ∧ ψ j = y := by
    intro y hy
    rw [eW] at hy
    obtain ⟨j, a, b⟩ := phi_onto (kept := keptC cl h) rfl hy
    exact ⟨j, by omega, by rw [← hψ]; exact b⟩
  have rR : ∀ i i', i < h → i' < h → φ i = φ i' → ∀ j, j < wd → cl i j = cl i' j := fun i i' a b e j hj => by rw [← hat i j a hj, ← hat i' j b hj, e]
  have rC : ∀ j j', j < wd → j' < wd → ψ j = ψ j' → ∀ i, i < h → cl i j = cl i j' := fun j j' a b e i hi => by rw [← hat i j hi a, ← hat i j' hi b, e]
  rw [hφ] at eH
  rw [hψ] at eW
  have mφ : ∀ {a b : Nat}, a ≤ b → φ a ≤ φ b := fun h => step_mono sφ h
  have mψ : ∀ {a b : Nat}, a ≤ b → ψ a ≤ ψ b := fun h => step_mono sψ h
  refine ⟨boxes.map fun b => natB (φ b.1.toNat) (ψ b.2.1.toNat) (φ (b.1.toNat + b.2.2.1.toNat - 1) - φ b.1.toNat + 1) (ψ (b.2.1.toNat + b.2.2.2.toNat - 1) - ψ b.2.1.toNat + 1), ?_⟩
  refine ⟨⟨by omega, Nat.le_trans (tightH_le cl h wd) hh.2⟩, ⟨by omega, Nat.le_trans (tightW_le cl h wd) hw.2⟩, by rw [List.length_map]; exact f.few, ?_, ?_⟩
  · intro x y hx hy
    obtain ⟨i, hi, rfl⟩ := oR x hx
    obtain ⟨j, hj, rfl⟩ := oC y hy
    obtain ⟨k, hk, e⟩ := f.num i j hi hj
    exact ⟨k, by rw [List.length_map]; exact hk, by rw [hat i j hi hj]; exact e⟩
  · intro k hk
    have hk' : k < boxes.length := by rw [List.length_map] at hk; exact hk
    obtain ⟨a, b, c, d, e, hc, hd, hac, hbd, hb⟩ := f.box k hk'
    refine ⟨φ a, ψ b, φ (a + c - 1) - φ a + 1, ψ (b + d - 1) - ψ b + 1, ?_, by omega, by omega, ?_, ?_, ?_⟩
    · rw [List.getElem_map, e]; rfl
    · have := mφ (show a ≤ a + c - 1 by omega)
      have := mφ (show a + c - 1 ≤ h - 1 by omega)
      omega
    · have := mψ (show b ≤ b + d - 1 by omega)
      have := mψ (show b + d - 1 ≤ wd - 1 by omega)
      omega
    · intro x y hx hy
      obtain ⟨i, hi, rfl⟩ := oR x hx
      obtain ⟨j, hj, rfl⟩ := oC y hy
      rw [hat i j hi hj]
      have m1 := mφ (show a ≤ a + c - 1 by omega)
      have m2 := mψ (show b ≤ b + d - 1 by omega)
      constructor
      · intro ek
        have := (hb i j hi hj).1 ek
        have := mφ (show a ≤ i by omega)
        have := mφ (show i ≤ a + c - 1 by omega)
        have := mψ (show b ≤ j by omega)
        have := mψ (show j ≤ b + d - 1 by omega)
        omega
      · intro hx
        obtain ⟨i', i1, i2, i3⟩ := step_hits sφ (a := a) (n := c - 1) (x := φ i) (by omega) (by rw [show a + (c - 1) = a + c - 1 by omega]; omega)
        obtain ⟨j', j1, j2, j3⟩ := step_hits sψ (a := b) (n := d - 1) (x := ψ j) (by omega) (by rw [show b + (d - 1) = b + d - 1 by omega]; omega)
        rw [rR i i' hi (by omega) i3.symm j hj, rC j j' hj (by omega) j3.symm i' (by omega)]
        exact (hb i' j' (by omega) (by omega)).2 (by omega)
theorem tight_plan {p : List ByteArray} (hp : planG p = true) : ∃ q, planV (gridV (tightH (clP p) p.length (wdP p)) (tightW (clP p) p.length (wdP p)) (tightV (clP p) p.length (wdP p))) = (q, true) ∧ Planned (tightV (clP p) p.length (wdP p)) (tightH (clP p) p.length (wdP p)) (tightW (clP p) p.length (wdP p)) q := by
  obtain ⟨b, hb⟩ := flat_tight (planFlat hp)
  exact planned hb
end Go.Proofs.Ytdhnjecbdclmaaa
end
section
namespace Go.Proofs.Ytdhnjecbdclmaaa
open Go.RowKit Go.Shelf Go.Proofs.YtdhnjecbdclmaaaW.PrintWords Go.Proofs.YtdhnjecbdclmaaaW.PrintMore
set_option linter.unusedVariables false
set_option linter.unusedSimpArgs false
theorem cut_tight {p q : List ByteArray} (hp : planG p = true) (hq : Planned (tightV (clP p) p.length (wdP p)) (tightH (clP p) p.length (wdP p)) (tightW (clP p) p.length (wdP p)) q) (hc : (cutTextP p).2 = true) : (cutTextP q).2 = true := by
  have f := planFlat hp
  have f' := planFlat hq.plan
  have hh := f.high
  have hw := f.wide
  have eH := tightH_eq (clP p) (wdP p) hh.1
  have eW := tightW_eq (clP p) p.length hw.1
  have hH := tightH_le (clP p) p.length (wdP p)
  have hW := tightW_le (clP p) p.length (wdP p)
  have hdp : (deepP p).isSome = true := by
    rw [← deep_text hp]
    unfold cutTextP at hc
    rw [if_pos hp] at hc
    exact hc
  obtain ⟨d, hd⟩ := Option.isSome_iff_exists.1 hdp
  have g := (deep_dep f 13 0 0 p.length (wdP p) (by omega) f.whole d).1 ⟨d, hd, Nat.le_refl _⟩
  have lφ : ∀ i, i < p.length → phi (keptR (clP p) (wdP p)) i < tightH (clP p) p.length (wdP p) := fun i hi => by
    have := step_mono (phi_step (keptR (clP p) (wdP p))) (show i ≤ p.length - 1 by omega)
    omega
  have lψ : ∀ j, j < wdP p → phi (keptC (clP p) p.length) j < tightW (clP p) p.length (wdP p) := fun j hj => by
    have := step_mono (phi_step (keptC (clP p) p.length)) (show j ≤ wdP p - 1 by omega)
    omega
  have g' := tight_dep (cl' := clP q) (phi_step (keptR (clP p) (wdP p))) (phi_step (keptC (clP p) p.length)) (h := p.length) (wd := wdP p) (fun i j i' j' hi hj hi' hj' => by
    rw [hq.same _ _ _ _ (lφ i hi) (lψ j hj) (lφ i' hi') (lψ j' hj'), tight_at hi hj, tight_at hi' hj']) d 0 0 p.length (wdP p) hh.1 hw.1 (by omega) (by omega) g
  have z1 : phi (keptR (clP p) (wdP p)) 0 = 0 := rfl
  have z2 : phi (keptC (clP p) p.length) 0 = 0 := rfl
  rw [z1, z2, Nat.zero_add, Nat.zero_add, Nat.sub_zero, Nat.sub_zero, ← eH, ← eW] at g'
  unfold cutTextP
  rw [if_pos hq.plan]
  show (cutTextO q).isSome = true
  rw [deep_text hq.plan]
  obtain ⟨e, he, _⟩ := (deep_dep f' 13 0 0 q.length (wdP q) (by rw [hq.high, hq.wide]; omega) f'.whole d).2 (by rw [hq.high, hq.wide]; exact g')
  unfold deepP
  rw [he]; rfl
end Go.Proofs.Ytdhnjecbdclmaaa
end
section
namespace Go.Proofs.Ytdhnjecbdclmaaa
open Go.RowKit Go.Shelf Go.Proofs.YtdhnjecbdclmaaaW.PrintWords Go.Proofs.YtdhnjecbdclmaaaW.PrintMore
set_option linter.unusedVariables false
set_option maxRecDepth 100000 in
set_option maxHeartbeats 4000000 in
theorem index_dr (gb h ch : Nat) (hh : h ≤ 1000) (vals : Nat → Value) (p : Nat → Bool) (cl : Nat) (cap : Array Value) (w : World) (hcells : ∀ r, r < h → w.cell? ⟨gb, r, none⟩ = some (vals r)) (hent : ∀ args W, (callFunc cl args).run Try.prog W = .ok (.enter cl args) W)
    (hcall : ∀ r q, r < h → Calls Try.prog cl (#[vals r] ++ cap) (w.drewN q) fun e w' => e = .returned (.bool (p r)) ∧ ∃ q', w' = w.drewN q') :
    Calls Try.prog 184 #[.slice (some ⟨gb, 0, none⟩) h ch, .func (.func cl) #[] cap] w fun e w' => Tells h p e ∧ ∃ q, w' = w.drewN q := by
  have HC := Aside0.mk hcells
  have HF := Aside0.mk hcall
  clear hcells hcall
  go_enter Try.func184, Try.ntmps184
  go_wp2
  go_loopg [8] h (fun g s8 wr => ∃ r q : Nat, s8 = .int .i64 r ∧ r ≤ h ∧ h - r ≤ g ∧ wr = w.drewN q ∧ Aside0 (∀ k, k < r → p k = false))
  case atStart => exact ⟨0, 0, rfl, by omega, by omega, rfl, ⟨fun k hk => absurd hk (by omega)⟩⟩
  case round =>
    obtain ⟨r, q, rfl, hr, hg, rfl, HP⟩ := hrel
    by_cases hlt : (r : Int) < (h : Int)
    · have hc := HC.out r (by omega)
      have hr0 : (0 : Int) ≤ (r : Int) := by omega
      cases hp : p r with
      | true =>
        go_wp2_with (refine Calls.mono (HF.out r q (by omega)) ?_; rintro e w' ⟨rfl, q2, rfl⟩; rw [hp])
        go_ret
        exact ⟨⟨_, rfl, by rw [any_upto (by omega) hp]; exact decide_eq_true hr0⟩, _, rfl⟩
      | false =>
        go_wp2_with (refine Calls.mono (HF.out r q (by omega)) ?_; rintro e w' ⟨rfl, q2, rfl⟩; rw [hp])
        go_roundg (h - (r + 1))
        case measure => omega
        case rel => exact ⟨r + 1, q2, by go_num, by omega, Nat.le_refl _, rfl, ⟨fun k hk => if e : k = r then by rw [e]; exact hp else HP.out k (by omega)⟩⟩
    · have hrh : r = h := by omega
      subst hrh
      go_wp2
      go_ret
      refine ⟨⟨_, rfl, ?_⟩, _, rfl⟩
      have : (List.range r).any p = false := by
        rw [List.any_eq_false]
        intro k hk
        rw [HP.out k (List.mem_range.1 hk)]; simp
      rw [this]; rfl
theorem contains_dr (gb h ch : Nat) (hh : h ≤ 1000) (vals : Nat → Value) (p : Nat → Bool) (cl : Nat) (cap : Array Value) (w : World) (hcells : ∀ r, r < h → w.cell? ⟨gb, r, none⟩ = some (vals r)) (hent : ∀ args W, (callFunc cl args).run Try.prog W = .ok (.enter cl args) W)
    (hcall : ∀ r q, r < h → Calls Try.prog cl (#[vals r] ++ cap) (w.drewN q) fun e w' => e = .returned (.bool (p r)) ∧ ∃ q', w' = w.drewN q') :
    Calls Try.prog 115 #[.slice (some ⟨gb, 0, none⟩) h ch, .func (.func cl) #[] cap] w fun e w' => e = .returned (.bool ((List.range h).any p)) ∧ ∃ q, w' = w.drewN q := by
  have HI := index_dr gb h ch hh vals p cl cap w hcells hent hcall
  clear hcells hcall hent
  go_enter Try.func115, Try.ntmps115
  go_wp2_with fail
  refine HI.mono ?_
  rintro e w' ⟨⟨k, rfl, hk⟩, q, rfl⟩
  have HK := Aside0.mk hk
  clear hk
  go_wp2_with fail
  go_ret
  exact ⟨by rw [← HK.out]; rfl, _, rfl⟩
set_option maxRecDepth 100000 in
set_option maxHeartbeats 4000000 in
theorem differs0_any (A : Option Addr) (n cp : Nat) (cb : Nat) (w : World) (h4 : w.cell? ⟨cb, 0, none⟩ = some (.int .i64 0)) :
    Calls Try.prog 114 #[.slice A n cp, .pointer (some ⟨cb, 0, none⟩)] w fun e w' => e = .returned (.bool true) ∧ ∃ q, w' = w.drewN q := by
  go_enter Try.func114, Try.ntmps114
  go_wp2_with fail
  go_quiet (fail)
  go_wp2_with fail
  go_ret
  exact ⟨rfl, _, rfl⟩
set_option maxRecDepth 100000 in
set_option maxHeartbeats 4000000 in
theorem differs1_any (rb n cp : Nat) (cb c : Nat) (x y : Int) (hc1 : 1 ≤ c) (hc : c < n) (hn : n ≤ 6) (w : World) (h4 : w.cell? ⟨cb, 0, none⟩ = some (.int .i64 c)) (hx : w.cell? ⟨rb, c, none⟩ = some (.int .i64 x)) (hy : w.cell? ⟨rb, c - 1, none⟩ = some (.int .i64 y)) :
    Calls Try.prog 114 #[.slice (some ⟨rb, 0, none⟩) n cp, .pointer (some ⟨cb, 0, none⟩)] w fun e w' => e = .returned (.bool (x != y)) ∧ ∃ q, w' = w.drewN q := by
  have n1 : ((c : Int) == 0) = false := by simp; omega
  have n6 : decide ((c : Int) = 0) = false := by simp; omega
  have n2 : (c : Int) - 1 < (n : Int) := by omega
  have n3 : (0 : Int) ≤ (c : Int) - 1 := by omega
  have n4 : (c : Int) < (n : Int) := by omega
  have w1 : IntKind.i64.wrap ((c : Int) - 1) = ((c - 1 : Nat) : Int) := by rw [IntKind.wrap_i64]; omega
  have w3 : wrap64 ((c : Int) - 1) = ((c - 1 : Nat) : Int) := by unfold wrap64; omega
  have n5 : ((c - 1 : Nat) : Int) < (n : Int) := by omega
  go_enter Try.func114, Try.ntmps114
  go_wp2_with fail
  go_quiet (fail)
  go_wp2_with fail
  go_ret
  exact ⟨rfl, _, rfl⟩
set_option maxRecDepth 100000 in
set_option maxHeartbeats 4000000 in
theorem tight2_any (xr xc rs rn rm cs cn cm q qn qm r c : Nat) (k : Nat) (v : Int) (hr : r < rn) (hc : c < cn) (hk : k < qn) (w : World)
    (h1 : w.cell? ⟨xr, 0, none⟩ = some (.slice (some ⟨rs, 0, none⟩) rn rm)) (h2 : w.cell? ⟨xc, 0, none⟩ = some (.slice (some ⟨cs, 0, none⟩) cn cm)) (h3 : w.cell? ⟨rs, r, none⟩ = some (.slice (some ⟨q, 0, none⟩) qn qm)) (h4 : w.cell? ⟨cs, c, none⟩ = some (.int .i64 k)) (h5 : w.cell? ⟨q, k, none⟩ = some (.int .i64 v)) :
    Calls Try.prog 117 #[.int .i64 r, .int .i64 c, .pointer (some ⟨xr, 0, none⟩), .pointer (some ⟨xc, 0, none⟩)] w fun e w' => e = .returned (.int .i64 v) ∧ ∃ q, w' = w.drewN q := by
  have n1 : (r : Int) < (rn : Int) := by omega
  have n2 : (c : Int) < (cn : Int) := by omega
  have n3 : (k : Int) < (qn : Int) := by omega
  go_enter Try.func117, Try.ntmps117
  go_wp2_with fail
  go_region_held3 (fun w' => w'.cell? ⟨xr, 0, none⟩ = some (.slice (some ⟨rs, 0, none⟩) rn rm) ∧ w'.cell? ⟨xc, 0, none⟩ = some (.slice (some ⟨cs, 0, none⟩) cn cm) ∧ w'.cell? ⟨rs, r, none⟩ = some (.slice (some ⟨q, 0, none⟩) qn qm) ∧ w'.cell? ⟨cs, c, none⟩ = some (.int .i64 k) ∧ w'.cell? ⟨q, k, none⟩ = some (.int .i64 v)) (first
    | exact ⟨h1, h2, h3, h4, h5⟩
    | (go_simp)) (fail)
  all_goals
    go_wp2_with fail
    go_ret
    exact ⟨rfl, _, rfl⟩
end Go.Proofs.Ytdhnjecbdclmaaa
end
