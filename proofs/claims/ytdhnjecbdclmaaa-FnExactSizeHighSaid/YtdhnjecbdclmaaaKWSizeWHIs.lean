/- SizeWide, SizeHigh: both sides, under the names that a printed text takes. -/
import Derived.Test.YtdhnjecbdclmaaaKWKindQM
namespace Go.Proofs.Ytdhnjecbdclmaaa
open Go.RowKit Go.Shelf Go.Proofs.YtdhnjecbdclmaaaW.PrintWords Go.Proofs.YtdhnjecbdclmaaaW.PrintMore
set_option linter.unusedVariables false
set_option linter.unusedSimpArgs false
theorem in_9w (x : Int) : L10.spec_l6In.f x 1 9 = some (!wrongP x) := by
  unfold L10.spec_l6In.f wrongP
  by_cases h1 : x ≥ 1
  · rw [if_pos h1, decide_eq_false (show ¬ x < 1 by omega), Bool.false_or]
    by_cases h2 : x ≤ 9
    · rw [decide_eq_true h2, decide_eq_false (show ¬ 9 < x by omega)]; rfl
    · rw [decide_eq_false h2, decide_eq_true (show 9 < x by omega)]; rfl
  · rw [if_neg h1, decide_eq_true (show x < 1 by omega), Bool.true_or]; rfl
theorem wrap_nextw (i : Nat) (hi : i ≤ 2000000) : wrap64 ((i : Int) + 1) = ((i + 1 : Nat) : Int) := by
  rw [wrap64]; omega
theorem needs_l0w (needs : List Int) (hn : needs.length ≤ 1048576) : ∀ d i, i + d = needs.length → Ev (fun k => L10.spec_l7Needs.l0 k needs (i : Int)) (!((List.range' i d).any fun k => wrongP (needs.getD k 0))) := by
  intro d
  induction d with
  | zero =>
    intro i hi
    refine Ev.now fun k => ?_
    unfold L10.spec_l7Needs.l0
    rw [if_neg (by omega)]; rfl
  | succ d ih =>
    intro i hi
    have hE := ih (i + 1) (by omega)
    have e0 : rd needs (i : Int) = needs.getD i 0 := by unfold rd; rw [Int.toNat_natCast]
    have c0 : (i : Int) < (needs.length : Int) := by omega
    have c1 : (0 : Int) ≤ (i : Int) := by omega
    rw [List.range'_succ, List.any_cons]
    have hU : ∀ k, L10.spec_l7Needs.l0 (k + 1) needs (i : Int) = if (!wrongP (needs.getD i 0)) = true then L10.spec_l7Needs.l0 k needs ((i + 1 : Nat) : Int) else some false := fun k => by
      conv => lhs; unfold L10.spec_l7Needs.l0
      rw [if_pos c0, if_pos c1, e0, in_9w, Option.bind_some, wrap_nextw i (by omega)]
    cases hw : wrongP (needs.getD i 0) with
    | true =>
      rw [hw] at hU
      exact Ev.now fun k => by rw [hU k]; rfl
    | false =>
      rw [hw] at hU
      rw [Bool.false_or]
      exact hE.step fun k => by rw [hU k]; rfl
theorem j0_truew (k : Nat) (needs : List Int) : L10.spec_l7Needs.j0 (k + 1) needs true = some false := by
  unfold L10.spec_l7Needs.j0; rfl
theorem j0_falsew (k : Nat) (needs : List Int) : L10.spec_l7Needs.j0 (k + 1) needs false = L10.spec_l7Needs.l0 k needs 0 := by
  conv => lhs; unfold L10.spec_l7Needs.j0
  rfl
theorem needs_evw (p : List ByteArray) (hp : SmallP p) (needs : List Int) (hn : needs.length ≤ 1048576) : Ev (fun k => L10.spec_l7Needs.f k p needs) (needsG p needs) := by
  have h5 : L10.spec_l5Plain.f p = some (plainP p) := by
    unfold L10.spec_l5Plain.f spec_WallPlain.f
    rw [if_pos hp]; rfl
  unfold needsG
  cases hpl : plainP p with
  | false =>
    rw [hpl] at h5
    refine Ev.now fun k => ?_
    unfold L10.spec_l7Needs.f
    rw [h5, Option.bind_some, if_neg (by simp), j0_truew]; rfl
  | true =>
    have hpg : planG p = true := by unfold plainP at hpl; exact (Bool.and_eq_true_iff.1 hpl).1
    rw [hpl] at h5
    have hr : spec_l1Rooms.f p = some ((boxesP p).length : Int) := tot_ev (plan_roomsE hpg)
    have hU : ∀ k, L10.spec_l7Needs.f k p needs = L10.spec_l7Needs.j0 k needs ((needs.length : Int) != ((boxesP p).length : Int)) := fun k => by
      unfold L10.spec_l7Needs.f
      rw [h5, Option.bind_some, if_pos rfl, hr, Option.bind_some]
    rw [Bool.true_and]
    by_cases hl : needs.length = (boxesP p).length
    · have e : ((needs.length : Int) != ((boxesP p).length : Int)) = false := by rw [hl]; simp
      rw [e] at hU
      rw [decide_eq_true hl, Bool.true_and]
      have hE := needs_l0w needs hn needs.length 0 (by omega)
      rw [← List.range_eq_range'] at hE
      refine hE.step fun k => ?_
      rw [hU (k + 1), j0_falsew]; rfl
    · have e : ((needs.length : Int) != ((boxesP p).length : Int)) = true := by rw [bne_iff_ne]; omega
      rw [e] at hU
      rw [decide_eq_false hl, Bool.false_and]
      refine Ev.now fun k => ?_
      rw [hU (k + 1), j0_truew]
theorem least_ev (p : List ByteArray) (needs : List Int) (hg : needsG p needs = true) (kind : Bool) : Ev (fun k => L10.spec_l7Least.f k p needs (orderI kind)) (sumP p kind fun x => needs.getD x 0) := by
  obtain ⟨hpl, hlen, _⟩ := needsG_parts hg
  obtain ⟨_, hv⟩ := needs_one hg
  have hn := (planFlat hpl).few
  obtain ⟨rk, hgr⟩ := rel_grows hpl kind
  obtain ⟨n, hnn⟩ : ∃ n, (boxesP p).length = n := ⟨_, rfl⟩
  have hA := all_ev p hpl kind
  have hs : sumP p kind (fun x => needs.getD x 0) = topR (heavyN n (relP p kind) (fun x => needs.getD x 0)) n := by unfold sumP; rw [hnn]
  rw [hs]
  rw [hnn] at hlen hv hn hgr hA
  obtain ⟨R, hR⟩ : ∃ R, relP p kind = R := ⟨_, rfl⟩
  rw [hR] at hgr hA ⊢
  obtain ⟨v, hvv⟩ : ∃ v : Nat → Int, (fun x => needs.getD x 0) = v := ⟨_, rfl⟩
  have hx : ∀ a, a < n → rd needs (a : Int) = v a := fun a ha => by rw [← hvv]; unfold rd; rw [Int.toNat_natCast]
  have hv' : ∀ a, a < n → 1 ≤ v a ∧ v a ≤ 9 := fun a ha => by rw [← hvv]; exact hv a ha
  rw [hvv]
  have hw : ∀ a, a < n → 0 ≤ v a ∧ v a ≤ 9 := fun a ha => by have := hv' a ha; omega
  have heq : ∀ b, b < n → heavyN n R v b = maxR (fun a => R a b) (heavyN n R v) n + v b := fun b hb => heavyN_eq hgr hb
  have hP : ∀ a b, a < n → b < n → R a b = true → (heavyN n R v a - v a) + v a ≤ heavyN n R v b - v b := fun a b ha hb hr => by
    rw [heq b hb]
    have := maxR_ge (P := fun a => R a b) (g := heavyN n R v) n a ha hr
    omega
  have hle : ∀ x, x < n → heavyN n R v x ≤ 81 := fun x hx => by
    have := heavy_le (R := R) (c := 9) (by omega) (fun x hx => (hv' x hx).2) n x hx
    unfold heavyN
    omega
  have h0 : ∀ x, x < n → 0 ≤ heavyN n R v x - v x := fun x hx => by
    rw [heq x hx]
    have := maxR_nonneg (fun a => R a x) (heavyN n R v) n
    omega
  have hPl := places_l0 hn (P := fun x => heavyN n R v x - v x) hw hP (fun x hx => by have := hle x hx; have := hv' x hx; show _ - _ ≤ _; omega) needs hlen hx h0 n 0 (by omega)
  have hE := least_l0 needs hlen hn v (allP n R v n) hx (fun a ha => by
    have := allP_le (P := fun x => heavyN n R v x - v x) (fun a h => (hw a h).1) hP h0 n a ha
    have q := hle a ha
    have r := hw a ha
    have s1 := this.1
    have s2 : allP n R v n a ≤ heavyN n R v a - v a := this.2
    omega) n 0 (by omega)
  have ht : topR (fun a => allP n R v n a + v a) n = topR (heavyN n R v) n := topR_cong fun a ha => allP_heavy hgr (fun a h => (hw a h).1) n a ha (Nat.le_of_lt (hgr.2 a ha))
  rw [ht] at hE
  have hz : numsL (allP n R v 0) n = List.replicate n 0 := by
    unfold numsL
    show (List.range n).map (fun _ => (0 : Int)) = _
    rw [List.map_const', List.length_range]
  rw [hz] at hPl
  unfold L10.spec_l7Least.f
  refine Ev.bind (F := fun k t169 => L10.spec_l7Least.l0 k needs t169 0 0) ?_ hE
  unfold L10.spec_l7Places.f
  refine Ev.bind (F := fun k t158 => (if 0 ≤ (needs.length : Int) then (if ((needs.length : Int) : Int).toNat ≤ 35184372088832 then (L10.spec_l7Places.l0 k needs t158 (List.replicate ((needs.length : Int) : Int).toNat 0) 0) else (none)) else (none))) hA ?_
  simp only [hlen]
  simp only [Int.toNat_natCast]
  simp only [show (0 : Int) ≤ (n : Int) by omega, show n ≤ 35184372088832 by omega, if_true]
  exact hPl
theorem wide_ev (p : List ByteArray) (hp : SmallP p) (needs : List Int) (hn : needs.length ≤ 1048576) : Ev (fun k => L10.spec_SizeWide.f k p needs) (sizeP p false needs) := by
  unfold L10.spec_SizeWide.f sizeP
  refine Ev.bind (F := fun k (t174 : Bool) => if t174 = true then ((L10.spec_l7Least.f k p needs 0).bind fun t175 => (some (t175, true))) else (some (0, false))) (needs_evw p hp needs hn) ?_
  cases hg : needsG p needs with
  | false => exact Ev.const _
  | true => exact Ev.bind (F := fun k (t175 : Int) => some (t175, true)) (least_ev p needs hg false) (Ev.const _)
theorem high_ev (p : List ByteArray) (hp : SmallP p) (needs : List Int) (hn : needs.length ≤ 1048576) : Ev (fun k => L10.spec_SizeHigh.f k p needs) (sizeP p true needs) := by
  unfold L10.spec_SizeHigh.f sizeP
  refine Ev.bind (F := fun k (t174 : Bool) => if t174 = true then ((L10.spec_l7Least.f k p needs 1).bind fun t175 => (some (t175, true))) else (some (0, false))) (needs_evw p hp needs hn) ?_
  cases hg : needsG p needs with
  | false => exact Ev.const _
  | true => exact Ev.bind (F := fun k (t175 : Int) => some (t175, true)) (least_ev p needs hg true) (Ev.const _)
def impl_SizeWide.f (l0 : List ByteArray) (l1 : List Int) : Option (Int × Bool) := if SmallP l0 ∧ l1.length ≤ 1048576 then some (sizeP l0 false l1) else none
theorem impl_SizeWide.calls (A0 : Option Addr) (c0 : Nat) (l0 : List ByteArray) (A1 : Option Addr) (c1 : Nat) (l1 : List Int) (r1 : Int) (r2 : Bool) (w : World) (hr0 : Kd.C Kd.string w A0 l0.length l0) (hc0 : l0.length ≤ c0) (hr1 : Kd.C (Kd.int .i64) w A1 l1.length l1) (hc1 : l1.length ≤ c1) (h : impl_SizeWide.f l0 l1 = some (r1, r2)) :
    Calls Try.prog 69 #[.slice A0 l0.length c0, .slice A1 l1.length c1] w fun e w' => e = .returned (.tuple #[.int .i64 r1, .bool r2]) ∧ Below w.heap.size w w' := by
  unfold impl_SizeWide.f at h
  split at h
  · rename_i hb
    injection h with h
    have := sizeWide_any A0 c0 l0 hb.1 A1 c1 l1 hb.2 w hr0 hc0 hr1 hc1
    rw [h] at this
    exact this
  · cases h
def spec_SizeWide.f (l0 : List ByteArray) (l1 : List Int) : Option (Int × Bool) := if SmallP l0 ∧ l1.length ≤ 1048576 then some (sizeP l0 false l1) else none
theorem spec_SizeWide.calls (A0 : Option Addr) (c0 : Nat) (l0 : List ByteArray) (A1 : Option Addr) (c1 : Nat) (l1 : List Int) (r1 : Int) (r2 : Bool) (w : World) (hr0 : Kd.C Kd.string w A0 l0.length l0) (hc0 : l0.length ≤ c0) (hr1 : Kd.C (Kd.int .i64) w A1 l1.length l1) (hc1 : l1.length ≤ c1) (h : spec_SizeWide.f l0 l1 = some (r1, r2)) :
    Calls Try.prog 68 #[.slice A0 l0.length c0, .slice A1 l1.length c1] w fun e w' => e = .returned (.tuple #[.int .i64 r1, .bool r2]) ∧ Below w.heap.size w w' := by
  unfold spec_SizeWide.f at h
  split at h
  · rename_i hb
    injection h with h
    obtain ⟨k, hk⟩ := (wide_ev l0 hb.1 l1 hb.2).ex
    exact L10.spec_SizeWide.calls k A0 c0 l0 A1 c1 l1 r1 r2 w hr0 hc0 hr1 hc1 (by rw [hk, h])
  · cases h
def impl_SizeHigh.f (l0 : List ByteArray) (l1 : List Int) : Option (Int × Bool) := if SmallP l0 ∧ l1.length ≤ 1048576 then some (sizeP l0 true l1) else none
theorem impl_SizeHigh.calls (A0 : Option Addr) (c0 : Nat) (l0 : List ByteArray) (A1 : Option Addr) (c1 : Nat) (l1 : List Int) (r1 : Int) (r2 : Bool) (w : World) (hr0 : Kd.C Kd.string w A0 l0.length l0) (hc0 : l0.length ≤ c0) (hr1 : Kd.C (Kd.int .i64) w A1 l1.length l1) (hc1 : l1.length ≤ c1) (h : impl_SizeHigh.f l0 l1 = some (r1, r2)) :
    Calls Try.prog 67 #[.slice A0 l0.length c0, .slice A1 l1.length c1] w fun e w' => e = .returned (.tuple #[.int .i64 r1, .bool r2]) ∧ Below w.heap.size w w' := by
  unfold impl_SizeHigh.f at h
  split at h
  · rename_i hb
    injection h with h
    have := sizeHigh_any A0 c0 l0 hb.1 A1 c1 l1 hb.2 w hr0 hc0 hr1 hc1
    rw [h] at this
    exact this
  · cases h
def spec_SizeHigh.f (l0 : List ByteArray) (l1 : List Int) : Option (Int × Bool) := if SmallP l0 ∧ l1.length ≤ 1048576 then some (sizeP l0 true l1) else none
theorem spec_SizeHigh.calls (A0 : Option Addr) (c0 : Nat) (l0 : List ByteArray) (A1 : Option Addr) (c1 : Nat) (l1 : List Int) (r1 : Int) (r2 : Bool) (w : World) (hr0 : Kd.C Kd.string w A0 l0.length l0) (hc0 : l0.length ≤ c0) (hr1 : Kd.C (Kd.int .i64) w A1 l1.length l1) (hc1 : l1.length ≤ c1) (h : spec_SizeHigh.f l0 l1 = some (r1, r2)) :
    Calls Try.prog 66 #[.slice A0 l0.length c0, .slice A1 l1.length c1] w fun e w' => e = .returned (.tuple #[.int .i64 r1, .bool r2]) ∧ Below w.heap.size w w' := by
  unfold spec_SizeHigh.f at h
  split at h
  · rename_i hb
    injection h with h
    obtain ⟨k, hk⟩ := (high_ev l0 hb.1 l1 hb.2).ex
    exact L10.spec_SizeHigh.calls k A0 c0 l0 A1 c1 l1 r1 r2 w hr0 hc0 hr1 hc1 (by rw [hk, h])
  · cases h
end Go.Proofs.Ytdhnjecbdclmaaa
