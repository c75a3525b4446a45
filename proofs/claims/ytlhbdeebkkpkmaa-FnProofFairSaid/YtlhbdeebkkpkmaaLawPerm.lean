/- The laws on proofs about permutations: the laws' own walks. Conditions: none. -/
import Derived.Test.YtlhbdeebkkpkmaaDrawIs
import Derived.Test.YtlhbdeebkkpkmaaPlainLF
import Derived.Test.YtlhbdeebkkpkmaaSpecLooseIs
import Derived.Test.YtlhbdeebkkpkmaaProofFair
namespace Go.Proofs.Ytlhbdeebkkpkmaa
open Go.RowKit Go.Shelf Go.Proofs.YtlhbdeebkkpkmaaW.PrintWords Go.Proofs.YtlhbdeebkkpkmaaW.PrintMore
set_option linter.unusedVariables false

def CodeRow (w : World) (a0 : Option Addr) (len0 cap0 : Nat) (z0 : List Int) : Prop := (a0 = none ∧ len0 = 0 ∧ cap0 = 0 ∧ z0 = []) ∨ ∃ x, a0 = some x ∧ len0 ≤ cap0 ∧ cap0 ≤ maxLen ∧ z0.length = cap0 ∧ (∀ i, i < z0.length → w.cell? (x.add i) = some (.int .u8 (z0.getD i 0))) ∧ ∀ n ∈ z0, (Lit.int .u8 n).wf = true
theorem CodeRow.code {w : World} {a0 : Option Addr} {len0 cap0 : Nat} {z0 : List Int} (h : CodeRow w a0 len0 cap0 z0) : ∃ bs, Code0 w a0 len0 cap0 bs := by
  obtain ⟨l0, rfl, hr0, hm0, hw0, hc0⟩ := ReadsInt.ofRowC h
  refine ⟨l0, hc0, Kd.C_of_reads (d := (0 : Int)) (h1 := fun _ => rfl) hr0, fun x hx => ?_⟩
  have := hw0 x hx
  unfold Lit.wf at this
  rw [Bool.and_eq_true, decide_eq_true_eq, decide_eq_true_eq] at this
  exact this
/-- A drawn list, as it is read in all later worlds. -/
def Given (w w1 : World) (v : Value) (xs : List Int) : Prop := ∃ g c, v = .slice (some ⟨g, 0, none⟩) xs.length c ∧ xs.length ≤ c ∧ xs.length ≤ 8 ∧ Kd.C (Kd.int .i64) w1 (some ⟨g, 0, none⟩) xs.length xs ∧ Below w.heap.size w w1
theorem given_of {w w1 : World} {k : Nat} {v : Value} (h0 : 1 ≤ k) (h8 : k ≤ 8) (hr : Row w1 w.heap.size k v) (hb : Below w.heap.size w w1) : ∃ xs, Given w w1 v xs := by
  obtain ⟨g, c, rfl⟩ := hr.form (by omega)
  obtain ⟨xs, x1, x2, x3⟩ := hr.reads
  exact ⟨xs, g, c, by rw [x1], by rw [x1]; exact hr.cap.2.1, by omega, by rw [x1]; exact x3, hb⟩

set_option maxRecDepth 100000 in
set_option maxHeartbeats 4000000 in
theorem walk_FnLooseIs (a0 : Option Addr) (len0 cap0 : Nat) (z0 : List Int) (w : World) (w0 : CodeRow w a0 len0 cap0 z0) (y0 : len0 * 1 ≤ 140737488351232) :
    Calls Try.prog 6 #[.slice a0 len0 cap0] w fun e w' => e = .returned (.bool true) ∧ Below w.heap.size w w' := by
  obtain ⟨bs, hc0⟩ := w0.code
  have HD := drawLooseIs_any a0 len0 cap0 bs w hc0
  clear hc0 w0
  by_cases hlen : 1048576 < len0
  · go_enter Try.func6, Try.ntmps6
    go_wp2_with fail
    go_ret
    exact ⟨rfl, Below.refl _ _⟩
  go_enter Try.func6, Try.ntmps6
  go_wp2_with fail
  refine HD.mono ?_
  rintro e w1 ⟨k, v, s, rfl, a1, a2, a3, a4, a5⟩
  obtain ⟨xs, g, c, rfl, g1, g2, g3, g4⟩ := given_of a1 a2 a4 a5
  have HI : Aside0 (∀ wx, Below w1.heap.size w1 wx → Calls Try.prog 14 #[.slice (some ⟨g, 0, none⟩) xs.length c, .string s] wx fun e w' => e = .returned (.bool (looseIsB xs s)) ∧ Below wx.heap.size wx w') :=
    ⟨fun wx hb => looseIs_any _ c xs s (by omega) wx (Kd.C_below g3 hb) g1⟩
  have HS : Aside0 (∀ wx, Below w1.heap.size w1 wx → Calls Try.prog 12 #[.slice (some ⟨g, 0, none⟩) xs.length c, .string s] wx fun e w' => e = .returned (.bool (looseIsB xs s)) ∧ Below wx.heap.size wx w') :=
    ⟨fun wx hb => specLooseIs_any _ c xs s (by omega) (by omega) wx (Kd.C_below g3 hb) g1⟩
  have HL : Aside0 (∀ wx, Below w1.heap.size w1 wx → Calls Try.prog 21 #[.slice (some ⟨g, 0, none⟩) xs.length c] wx fun e w' => e = .returned (.bool (permInB xs && looseB xs)) ∧ Below wx.heap.size wx w') :=
    ⟨fun wx hb => permLoose_any _ c xs (by omega) wx (Kd.C_below g3 hb) g1⟩
  have HN : Aside0 (∀ wx, Below w1.heap.size w1 wx → Calls Try.prog 22 #[.slice (some ⟨g, 0, none⟩) xs.length c] wx fun e w' => e = .returned (.bool (permInB xs)) ∧ Drawn0 wx w') :=
    ⟨fun wx hb => permIn_any _ c xs (by omega) wx (Kd.C_below g3 hb) g1⟩
  have HB := Aside0.mk g4
  clear a1 a2 a3 a4 a5 g1 g2 g3 g4 HD
  cases hr : looseIsB xs s with
  | false =>
    rw [hr] at HI HS
    go_wp2_with fail
    refine (HI.out _ (Below.refl _ _)).mono ?_
    rintro e w2 ⟨rfl, h2⟩
    have H2 := Aside0.mk h2
    clear h2
    go_wp2_with fail
    refine (HS.out _ H2.out).mono ?_
    rintro e w3 ⟨rfl, h3⟩
    have H3 := Aside0.mk (H2.out.trans (h3.mono H2.out.size))
    clear h3
    go_wp2_with fail
    go_ret
    exact ⟨rfl, HB.out.trans (H3.out.mono HB.out.size)⟩
  | true =>
    obtain ⟨p1, p2⟩ := looseIs_shows hr
    rw [hr] at HI HS
    rw [p1, p2] at HL
    rw [p1] at HN
    clear p1 p2 hr
    go_wp2_with fail
    refine (HI.out _ (Below.refl _ _)).mono ?_
    rintro e w2 ⟨rfl, h2⟩
    have H2 := Aside0.mk h2
    clear h2
    go_wp2_with fail
    refine (HS.out _ H2.out).mono ?_
    rintro e w3 ⟨rfl, h3⟩
    have H3 := Aside0.mk (H2.out.trans (h3.mono H2.out.size))
    clear h3
    go_wp2_with fail
    refine (HL.out _ H3.out).mono ?_
    rintro e w4 ⟨rfl, h4⟩
    have H4 := Aside0.mk (H3.out.trans (h4.mono H3.out.size))
    clear h4
    go_wp2_with fail
    refine (HN.out _ H4.out).mono ?_
    rintro e w5 ⟨rfl, h5⟩
    have H5 := Aside0.mk (H4.out.trans (h5.below.mono H4.out.size))
    clear h5
    go_wp2_with fail
    go_ret
    exact ⟨rfl, HB.out.trans (H5.out.mono HB.out.size)⟩
-- MORE
set_option maxRecDepth 100000 in
set_option maxHeartbeats 4000000 in
theorem walk_FnFairIs (a0 : Option Addr) (len0 cap0 : Nat) (z0 : List Int) (w : World) (w0 : CodeRow w a0 len0 cap0 z0) (y0 : len0 * 1 ≤ 140737488351232) :
    Calls Try.prog 8 #[.slice a0 len0 cap0] w fun e w' => e = .returned (.bool true) ∧ Below w.heap.size w w' := by
  obtain ⟨bs, hc0⟩ := w0.code
  have HD := drawFairIs_any a0 len0 cap0 bs w hc0
  clear hc0 w0
  by_cases hlen : 1048576 < len0
  · go_enter Try.func8, Try.ntmps8
    go_wp2_with fail
    go_ret
    exact ⟨rfl, Below.refl _ _⟩
  go_enter Try.func8, Try.ntmps8
  go_wp2_with fail
  refine HD.mono ?_
  rintro e w1 ⟨k, v, s, rfl, a1, a2, a3, a4, a5⟩
  obtain ⟨xs, g, c, rfl, g1, g2, g3, g4⟩ := given_of a1 a2 a4 a5
  have HFI : Aside0 (∀ wx, Below w1.heap.size w1 wx → Calls Try.prog 17 #[.slice (some ⟨g, 0, none⟩) xs.length c, .string s] wx fun e w' => e = .returned (.bool (fairIsB xs s)) ∧ Below wx.heap.size wx w') :=
    ⟨fun wx hb => fairIs_any _ c xs s (by omega) wx (Kd.C_below g3 hb) g1⟩
  have HFS : Aside0 (∀ wx, Below w1.heap.size w1 wx → Calls Try.prog 16 #[.slice (some ⟨g, 0, none⟩) xs.length c, .string s] wx fun e w' => e = .returned (.bool (fairIsB xs s)) ∧ Below wx.heap.size wx w') :=
    ⟨fun wx hb => specFairIs_any _ c xs s (by omega) (by omega) wx (Kd.C_below g3 hb) g1⟩
  have HPF : Aside0 (∀ wx, Below w1.heap.size w1 wx → Calls Try.prog 26 #[.slice (some ⟨g, 0, none⟩) xs.length c] wx fun e w' => e = .returned (.bool (permInB xs && fairB xs)) ∧ Below wx.heap.size wx w') :=
    ⟨fun wx hb => permFair_any _ c xs (by omega) wx (Kd.C_below g3 hb) g1⟩
  have HPL : Aside0 (∀ wx, Below w1.heap.size w1 wx → Calls Try.prog 21 #[.slice (some ⟨g, 0, none⟩) xs.length c] wx fun e w' => e = .returned (.bool (permInB xs && looseB xs)) ∧ Below wx.heap.size wx w') :=
    ⟨fun wx hb => permLoose_any _ c xs (by omega) wx (Kd.C_below g3 hb) g1⟩
  have HPN : Aside0 (∀ wx, Below w1.heap.size w1 wx → Calls Try.prog 22 #[.slice (some ⟨g, 0, none⟩) xs.length c] wx fun e w' => e = .returned (.bool (permInB xs)) ∧ Drawn0 wx w') :=
    ⟨fun wx hb => permIn_any _ c xs (by omega) wx (Kd.C_below g3 hb) g1⟩
  have HB := Aside0.mk g4
  clear a1 a2 a4 a5 g1 g2 g3 g4 HD
  cases hr : fairIsB xs s with
  | false =>
    rw [hr] at HFI HFS
    go_wp2_with fail
    refine (HFI.out _ (Below.refl _ _)).mono ?_
    rintro e w2 ⟨rfl, h2⟩
    have B2 := Aside0.mk (show Below w1.heap.size w1 w2 from h2)
    clear h2
    go_wp2_with fail
    refine (HFS.out _ B2.out).mono ?_
    rintro e w3 ⟨rfl, h3⟩
    have B3 := Aside0.mk (B2.out.trans (h3.mono B2.out.size))
    clear h3
    go_wp2_with fail
    go_ret
    exact ⟨rfl, HB.out.trans (B3.out.mono HB.out.size)⟩
  | true =>
    obtain ⟨p1, p2, p3⟩ := fairIs_shows hr
    rw [hr] at HFI HFS
    rw [p1, p2] at HPF
    rw [p1, p3] at HPL
    rw [p1] at HPN
    clear p1 p2 p3 hr
    go_wp2_with fail
    refine (HFI.out _ (Below.refl _ _)).mono ?_
    rintro e w2 ⟨rfl, h2⟩
    have B2 := Aside0.mk (show Below w1.heap.size w1 w2 from h2)
    clear h2
    go_wp2_with fail
    refine (HFS.out _ B2.out).mono ?_
    rintro e w3 ⟨rfl, h3⟩
    have B3 := Aside0.mk (B2.out.trans (h3.mono B2.out.size))
    clear h3
    go_wp2_with fail
    refine (HPF.out _ B3.out).mono ?_
    rintro e w4 ⟨rfl, h4⟩
    have B4 := Aside0.mk (B3.out.trans (h4.mono B3.out.size))
    clear h4
    go_wp2_with fail
    refine (HPL.out _ B4.out).mono ?_
    rintro e w5 ⟨rfl, h5⟩
    have B5 := Aside0.mk (B4.out.trans (h5.mono B4.out.size))
    clear h5
    go_wp2_with fail
    refine (HPN.out _ B5.out).mono ?_
    rintro e w6 ⟨rfl, h6⟩
    have B6 := Aside0.mk (B5.out.trans (h6.below.mono B5.out.size))
    clear h6
    go_wp2_with fail
    go_ret
    exact ⟨rfl, HB.out.trans (B6.out.mono HB.out.size)⟩
set_option maxRecDepth 100000 in
set_option maxHeartbeats 4000000 in
theorem walk_FnProofLoose (a0 : Option Addr) (len0 cap0 : Nat) (z0 : List Int) (w : World) (w0 : CodeRow w a0 len0 cap0 z0) (y0 : len0 * 1 ≤ 140737488351232) :
    Calls Try.prog 9 #[.slice a0 len0 cap0] w fun e w' => e = .returned (.bool true) ∧ Below w.heap.size w w' := by
  obtain ⟨bs, hc0⟩ := w0.code
  have HD := drawLoose_any a0 len0 cap0 bs w hc0
  clear hc0 w0
  by_cases hlen : 1048576 < len0
  · go_enter Try.func9, Try.ntmps9
    go_wp2_with fail
    go_ret
    exact ⟨rfl, Below.refl _ _⟩
  go_enter Try.func9, Try.ntmps9
  go_wp2_with fail
  refine HD.mono ?_
  rintro e w1 ⟨k, v, rfl, a1, a2, a4, a5⟩
  obtain ⟨xs, g, c, rfl, g1, g2, g3, g4⟩ := given_of a1 a2 a4 a5
  have a3 := looseP_size xs
  have HIL : Aside0 (∀ wx, Below w1.heap.size w1 wx → Calls Try.prog 19 #[.slice (some ⟨g, 0, none⟩) xs.length c] wx fun e w' => e = .returned (.tuple #[.string (looseP xs).1, .bool (looseP xs).2]) ∧ Below wx.heap.size wx w') :=
    ⟨fun wx hb => proofLoose_any _ c xs (by omega) wx (Kd.C_below g3 hb) g1⟩
  have HSL : Aside0 (∀ wx, Below w1.heap.size w1 wx → Calls Try.prog 18 #[.slice (some ⟨g, 0, none⟩) xs.length c] wx fun e w' => e = .returned (.tuple #[.string (looseP xs).1, .bool (looseP xs).2]) ∧ Below wx.heap.size wx w') :=
    ⟨fun wx hb => specLoose_any _ c xs (by omega) wx (Kd.C_below g3 hb) g1⟩
  have HLI : Aside0 (∀ wx, Below w1.heap.size w1 wx → Calls Try.prog 14 #[.slice (some ⟨g, 0, none⟩) xs.length c, .string (looseP xs).1] wx fun e w' => e = .returned (.bool (looseIsB xs (looseP xs).1)) ∧ Below wx.heap.size wx w') :=
    ⟨fun wx hb => looseIs_any _ c xs (looseP xs).1 (by omega) wx (Kd.C_below g3 hb) g1⟩
  have HPL : Aside0 (∀ wx, Below w1.heap.size w1 wx → Calls Try.prog 21 #[.slice (some ⟨g, 0, none⟩) xs.length c] wx fun e w' => e = .returned (.bool (permInB xs && looseB xs)) ∧ Below wx.heap.size wx w') :=
    ⟨fun wx hb => permLoose_any _ c xs (by omega) wx (Kd.C_below g3 hb) g1⟩
  have HB := Aside0.mk g4
  clear a1 a2 a4 a5 g1 g2 g3 g4 HD
  cases hr : (looseP xs).2 with
  | false =>
    rw [hr] at HIL HSL
    obtain ⟨tx, htx⟩ : ∃ tx, (looseP xs).1 = tx := ⟨_, rfl⟩
    rw [htx] at HIL HSL
    clear htx
    go_wp2_with fail
    refine (HIL.out _ (Below.refl _ _)).mono ?_
    rintro e w2 ⟨rfl, h2⟩
    have B2 := Aside0.mk (show Below w1.heap.size w1 w2 from h2)
    clear h2
    go_wp2_with fail
    refine (HSL.out _ B2.out).mono ?_
    rintro e w3 ⟨rfl, h3⟩
    have B3 := Aside0.mk (B2.out.trans (h3.mono B2.out.size))
    clear h3
    go_wp2_with fail
    go_ret
    exact ⟨rfl, HB.out.trans (B3.out.mono HB.out.size)⟩
  | true =>
    have hok := looseP_true hr
    obtain ⟨p1, p2⟩ := looseIs_shows hok
    rw [hr] at HIL HSL
    rw [hok] at HLI
    rw [p1, p2] at HPL
    clear p1 p2 hok hr
    obtain ⟨tx, htx⟩ : ∃ tx, (looseP xs).1 = tx := ⟨_, rfl⟩
    rw [htx] at HIL HSL HLI
    clear htx
    go_wp2_with fail
    refine (HIL.out _ (Below.refl _ _)).mono ?_
    rintro e w2 ⟨rfl, h2⟩
    have B2 := Aside0.mk (show Below w1.heap.size w1 w2 from h2)
    clear h2
    go_wp2_with fail
    refine (HSL.out _ B2.out).mono ?_
    rintro e w3 ⟨rfl, h3⟩
    have B3 := Aside0.mk (B2.out.trans (h3.mono B2.out.size))
    clear h3
    go_wp2_with fail
    refine (HLI.out _ B3.out).mono ?_
    rintro e w4 ⟨rfl, h4⟩
    have B4 := Aside0.mk (B3.out.trans (h4.mono B3.out.size))
    clear h4
    go_wp2_with fail
    refine (HPL.out _ B4.out).mono ?_
    rintro e w5 ⟨rfl, h5⟩
    have B5 := Aside0.mk (B4.out.trans (h5.mono B4.out.size))
    clear h5
    go_wp2_with fail
    go_ret
    exact ⟨rfl, HB.out.trans (B5.out.mono HB.out.size)⟩
set_option maxRecDepth 100000 in
set_option maxHeartbeats 4000000 in
theorem walk_FnProofFair (a0 : Option Addr) (len0 cap0 : Nat) (z0 : List Int) (w : World) (w0 : CodeRow w a0 len0 cap0 z0) (y0 : len0 * 1 ≤ 140737488351232) :
    Calls Try.prog 11 #[.slice a0 len0 cap0] w fun e w' => e = .returned (.bool true) ∧ Below w.heap.size w w' := by
  obtain ⟨bs, hc0⟩ := w0.code
  have HD := drawFair_any a0 len0 cap0 bs w hc0
  clear hc0 w0
  by_cases hlen : 1048576 < len0
  · go_enter Try.func11, Try.ntmps11
    go_wp2_with fail
    go_ret
    exact ⟨rfl, Below.refl _ _⟩
  go_enter Try.func11, Try.ntmps11
  go_wp2_with fail
  refine HD.mono ?_
  rintro e w1 ⟨k, v, rfl, a1, a2, a4, a5⟩
  obtain ⟨xs, g, c, rfl, g1, g2, g3, g4⟩ := given_of a1 a2 a4 a5
  have a3 := fairP_size xs
  have HIF : Aside0 (∀ wx, Below w1.heap.size w1 wx → Calls Try.prog 24 #[.slice (some ⟨g, 0, none⟩) xs.length c] wx fun e w' => e = .returned (.tuple #[.string (fairP xs).1, .bool (fairP xs).2]) ∧ Below wx.heap.size wx w') :=
    ⟨fun wx hb => proofFair_any _ c xs (by omega) wx (Kd.C_below g3 hb) g1⟩
  have HSF : Aside0 (∀ wx, Below w1.heap.size w1 wx → Calls Try.prog 23 #[.slice (some ⟨g, 0, none⟩) xs.length c] wx fun e w' => e = .returned (.tuple #[.string (fairP xs).1, .bool (fairP xs).2]) ∧ Below wx.heap.size wx w') :=
    ⟨fun wx hb => specFair_any _ c xs (by omega) wx (Kd.C_below g3 hb) g1⟩
  have HFI : Aside0 (∀ wx, Below w1.heap.size w1 wx → Calls Try.prog 17 #[.slice (some ⟨g, 0, none⟩) xs.length c, .string (fairP xs).1] wx fun e w' => e = .returned (.bool (fairIsB xs (fairP xs).1)) ∧ Below wx.heap.size wx w') :=
    ⟨fun wx hb => fairIs_any _ c xs (fairP xs).1 (by omega) wx (Kd.C_below g3 hb) g1⟩
  have HPF : Aside0 (∀ wx, Below w1.heap.size w1 wx → Calls Try.prog 26 #[.slice (some ⟨g, 0, none⟩) xs.length c] wx fun e w' => e = .returned (.bool (permInB xs && fairB xs)) ∧ Below wx.heap.size wx w') :=
    ⟨fun wx hb => permFair_any _ c xs (by omega) wx (Kd.C_below g3 hb) g1⟩
  have HB := Aside0.mk g4
  clear a1 a2 a4 a5 g1 g2 g3 g4 HD
  cases hr : (fairP xs).2 with
  | false =>
    rw [hr] at HIF HSF
    obtain ⟨tx, htx⟩ : ∃ tx, (fairP xs).1 = tx := ⟨_, rfl⟩
    rw [htx] at HIF HSF
    clear htx
    go_wp2_with fail
    refine (HIF.out _ (Below.refl _ _)).mono ?_
    rintro e w2 ⟨rfl, h2⟩
    have B2 := Aside0.mk (show Below w1.heap.size w1 w2 from h2)
    clear h2
    go_wp2_with fail
    refine (HSF.out _ B2.out).mono ?_
    rintro e w3 ⟨rfl, h3⟩
    have B3 := Aside0.mk (B2.out.trans (h3.mono B2.out.size))
    clear h3
    go_wp2_with fail
    go_ret
    exact ⟨rfl, HB.out.trans (B3.out.mono HB.out.size)⟩
  | true =>
    have hok := fairP_true hr
    obtain ⟨p1, p2, p3⟩ := fairIs_shows hok
    rw [hr] at HIF HSF
    rw [hok] at HFI
    rw [p1, p2] at HPF
    clear p1 p2 p3 hok hr
    obtain ⟨tx, htx⟩ : ∃ tx, (fairP xs).1 = tx := ⟨_, rfl⟩
    rw [htx] at HIF HSF HFI
    clear htx
    go_wp2_with fail
    refine (HIF.out _ (Below.refl _ _)).mono ?_
    rintro e w2 ⟨rfl, h2⟩
    have B2 := Aside0.mk (show Below w1.heap.size w1 w2 from h2)
    clear h2
    go_wp2_with fail
    refine (HSF.out _ B2.out).mono ?_
    rintro e w3 ⟨rfl, h3⟩
    have B3 := Aside0.mk (B2.out.trans (h3.mono B2.out.size))
    clear h3
    go_wp2_with fail
    refine (HFI.out _ B3.out).mono ?_
    rintro e w4 ⟨rfl, h4⟩
    have B4 := Aside0.mk (B3.out.trans (h4.mono B3.out.size))
    clear h4
    go_wp2_with fail
    refine (HPF.out _ B4.out).mono ?_
    rintro e w5 ⟨rfl, h5⟩
    have B5 := Aside0.mk (B4.out.trans (h5.mono B4.out.size))
    clear h5
    go_wp2_with fail
    go_ret
    exact ⟨rfl, HB.out.trans (B5.out.mono HB.out.size)⟩
set_option maxRecDepth 100000 in
set_option maxHeartbeats 4000000 in
theorem walk_FnProofEither (a0 : Option Addr) (len0 cap0 : Nat) (z0 : List Int) (w : World) (w0 : CodeRow w a0 len0 cap0 z0) (y0 : len0 * 1 ≤ 140737488351232) :
    Calls Try.prog 10 #[.slice a0 len0 cap0] w fun e w' => e = .returned (.bool true) ∧ Below w.heap.size w w' := by
  obtain ⟨bs, hc0⟩ := w0.code
  have HD := drawIn_any a0 len0 cap0 bs w hc0
  clear hc0 w0
  by_cases hlen : 1048576 < len0
  · go_enter Try.func10, Try.ntmps10
    go_wp2_with fail
    go_ret
    exact ⟨rfl, Below.refl _ _⟩
  go_enter Try.func10, Try.ntmps10
  go_wp2_with fail
  refine HD.mono ?_
  rintro e w1 ⟨k, v, rfl, a1, a2, a4, a5⟩
  obtain ⟨xs, g, c, rfl, g1, g2, g3, g4⟩ := given_of a1 a2 a4 a5
  have HPN : Aside0 (∀ wx, Below w1.heap.size w1 wx → Calls Try.prog 22 #[.slice (some ⟨g, 0, none⟩) xs.length c] wx fun e w' => e = .returned (.bool (permInB xs)) ∧ Drawn0 wx w') :=
    ⟨fun wx hb => permIn_any _ c xs (by omega) wx (Kd.C_below g3 hb) g1⟩
  have HSN : Aside0 (∀ wx, Below w1.heap.size w1 wx → Calls Try.prog 29 #[.slice (some ⟨g, 0, none⟩) xs.length c] wx fun e w' => e = .returned (.bool (permInB xs)) ∧ Drawn0 wx w') :=
    ⟨fun wx hb => specPermIn_any _ c xs (by omega) wx (Kd.C_below g3 hb) g1⟩
  have HIF : Aside0 (∀ wx, Below w1.heap.size w1 wx → Calls Try.prog 24 #[.slice (some ⟨g, 0, none⟩) xs.length c] wx fun e w' => e = .returned (.tuple #[.string (fairP xs).1, .bool (fairP xs).2]) ∧ Below wx.heap.size wx w') :=
    ⟨fun wx hb => proofFair_any _ c xs (by omega) wx (Kd.C_below g3 hb) g1⟩
  have HIL : Aside0 (∀ wx, Below w1.heap.size w1 wx → Calls Try.prog 19 #[.slice (some ⟨g, 0, none⟩) xs.length c] wx fun e w' => e = .returned (.tuple #[.string (looseP xs).1, .bool (looseP xs).2]) ∧ Below wx.heap.size wx w') :=
    ⟨fun wx hb => proofLoose_any _ c xs (by omega) wx (Kd.C_below g3 hb) g1⟩
  have HPF : Aside0 (∀ wx, Below w1.heap.size w1 wx → Calls Try.prog 26 #[.slice (some ⟨g, 0, none⟩) xs.length c] wx fun e w' => e = .returned (.bool (permInB xs && fairB xs)) ∧ Below wx.heap.size wx w') :=
    ⟨fun wx hb => permFair_any _ c xs (by omega) wx (Kd.C_below g3 hb) g1⟩
  have HPL : Aside0 (∀ wx, Below w1.heap.size w1 wx → Calls Try.prog 21 #[.slice (some ⟨g, 0, none⟩) xs.length c] wx fun e w' => e = .returned (.bool (permInB xs && looseB xs)) ∧ Below wx.heap.size wx w') :=
    ⟨fun wx hb => permLoose_any _ c xs (by omega) wx (Kd.C_below g3 hb) g1⟩
  have HB := Aside0.mk g4
  clear a1 a2 a4 a5 g1 g2 g3 g4 HD
  cases hp : permInB xs with
  | false =>
    rw [hp] at HPN HSN
    go_wp2_with fail
    refine (HPN.out _ (Below.refl _ _)).mono ?_
    rintro e w2 ⟨rfl, h2⟩
    have B2 := Aside0.mk (show Below w1.heap.size w1 w2 from h2.below)
    clear h2
    go_wp2_with fail
    refine (HSN.out _ B2.out).mono ?_
    rintro e w3 ⟨rfl, h3⟩
    have B3 := Aside0.mk (B2.out.trans (h3.below.mono B2.out.size))
    clear h3
    go_wp2_with fail
    go_ret
    exact ⟨rfl, HB.out.trans (B3.out.mono HB.out.size)⟩
  | true =>
    have e1 : fairB xs = !(fairP xs).2 := by
      cases h : (fairP xs).2 with
      | false => exact fairP_false hp h
      | true => exact (fairIs_shows (fairP_true h)).2.1
    have e2 : looseB xs = !(looseP xs).2 := by
      cases h : (looseP xs).2 with
      | false => exact looseP_false hp h
      | true => exact (looseIs_shows (looseP_true h)).2
    rw [hp, e1] at HPF
    rw [hp, e2] at HPL
    rw [hp] at HPN HSN
    clear e1 e2 hp
    obtain ⟨tx, htx⟩ : ∃ tx, (fairP xs).1 = tx := ⟨_, rfl⟩
    obtain ⟨ty, hty⟩ : ∃ ty, (looseP xs).1 = ty := ⟨_, rfl⟩
    rw [htx] at HIF
    rw [hty] at HIL
    clear htx hty
    obtain ⟨ba, hba⟩ : ∃ b, (fairP xs).2 = b := ⟨_, rfl⟩
    obtain ⟨bb, hbb⟩ : ∃ b, (looseP xs).2 = b := ⟨_, rfl⟩
    rw [hba] at HIF HPF
    rw [hbb] at HIL HPL
    clear hba hbb
    cases ba <;> cases bb
    all_goals
      go_wp2_with fail
      refine (HPN.out _ (Below.refl _ _)).mono ?_
      rintro e w2 ⟨rfl, h2⟩
      have B2 := Aside0.mk (show Below w1.heap.size w1 w2 from h2.below)
      clear h2
      go_wp2_with fail
      refine (HSN.out _ B2.out).mono ?_
      rintro e w3 ⟨rfl, h3⟩
      have B3 := Aside0.mk (B2.out.trans (h3.below.mono B2.out.size))
      clear h3
      go_wp2_with fail
      refine (HIF.out _ B3.out).mono ?_
      rintro e w4 ⟨rfl, h4⟩
      have B4 := Aside0.mk (B3.out.trans (h4.mono B3.out.size))
      clear h4
      go_wp2_with fail
      refine (HIL.out _ B4.out).mono ?_
      rintro e w5 ⟨rfl, h5⟩
      have B5 := Aside0.mk (B4.out.trans (h5.mono B4.out.size))
      clear h5
      go_wp2_with fail
      refine (HPF.out _ B5.out).mono ?_
      rintro e w6 ⟨rfl, h6⟩
      have B6 := Aside0.mk (B5.out.trans (h6.mono B5.out.size))
      clear h6
      go_wp2_with fail
      refine (HPL.out _ B6.out).mono ?_
      rintro e w7 ⟨rfl, h7⟩
      have B7 := Aside0.mk (B6.out.trans (h7.mono B6.out.size))
      clear h7
      go_wp2_with fail
      go_ret
      exact ⟨rfl, HB.out.trans (B7.out.mono HB.out.size)⟩
end Go.Proofs.Ytlhbdeebkkpkmaa
