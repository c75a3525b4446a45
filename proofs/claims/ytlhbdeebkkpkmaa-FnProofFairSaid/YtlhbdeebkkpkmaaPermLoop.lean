/- The reference's drawn lists: some list of few numbers. Conditions: a code of at most 2^47 bytes. -/
import Derived.Test.YtlhbdeebkkpkmaaPermDraw
namespace Go.Proofs.Ytlhbdeebkkpkmaa
open Go.RowKit Go.Shelf Go.Proofs.YtlhbdeebkkpkmaaW.PrintWords Go.Proofs.YtlhbdeebkkpkmaaW.PrintMore
set_option linter.unusedVariables false
def HeldG2 (X : Prop) : Prop := X
theorem held_in2 {X : Prop} (h : HeldG2 X) : X := h

/-- What the loop of l92Perm keeps. -/
def DrawLoop (base b : Nat) (A : Option Addr) (n cap : Nat) (w0 : World) (j : Nat) (q : Int) (v : Value) (wr : World) : Prop :=
  Row wr base j v ∧ RdAt b A n cap q wr ∧ Below w0.heap.size w0 wr ∧ base ≤ wr.heap.size

set_option maxRecDepth 100000 in
set_option maxHeartbeats 8000000 in
theorem permDraw_any (b : Nat) (A : Option Addr) (n cap : Nat) (q0 m : Int) (bs : List Int) (w0 w : World) (hb : RdAt b A n cap q0 w) (hq : 0 ≤ q0 ∧ q0 ≤ 1000) (hm : 1 ≤ m ∧ m ≤ 8) (hn : n ≤ 2000) (hnc : n ≤ cap) (hwb : w0.heap.size ≤ b) (hw : Below w0.heap.size w0 w)
    (hC : Kd.C (Kd.int .u8) w0 A n bs) (hbs : ∀ x ∈ bs, 0 ≤ x ∧ x ≤ 255) (hA : ∀ ad, A = some ad → 0 < n → ad.block ≠ b) :
    Calls Try.prog 49 #[.pointer (some ⟨b, 0, none⟩), .int .i64 m] w fun e w' => ∃ (k : Nat) (v : Value) (q : Int), e = .returned v ∧ 1 ≤ k ∧ k ≤ 8 ∧ q0 ≤ q ∧ q ≤ q0 + 20 ∧ Row w' w.heap.size k v ∧ RdAt b A n cap q w' ∧ Below w0.heap.size w0 w' ∧ ∀ j, j < w.heap.size → j ≠ b → w'.heap[j]? = w.heap[j]? := by
  have hm0 := hm.1
  have hm1 := hm.2
  have hq0 := hq.1
  have hq1 := hq.2
  have hbw : b < w.heap.size := (Array.getElem?_eq_some_iff.1 hb).1
  have HPK : ∀ (q m' : Int) (wx : World), Aside0 (RdAt b A n cap q wx) → Aside0 (Below w0.heap.size w0 wx) → 0 ≤ q ∧ q ≤ 100000 → 1 ≤ m' ∧ m' ≤ 100000 → Calls Try.prog 42 #[.pointer (some ⟨b, 0, none⟩), .int .i64 m'] wx fun e w' => ∃ k : Nat, e = .returned (.int .i64 k) ∧ (k : Int) < m' ∧ Aside0 (RdAt b A n cap (q + 1) w') ∧ Aside0 (Below w0.heap.size w0 w') ∧ Aside0 (∀ j, j ≠ b → w'.heap[j]? = wx.heap[j]?) ∧ Aside0 (w'.heap.size = wx.heap.size) :=
    fun q m' wx h1 h2 h3 h4 => pick_w b A n cap q m' bs w0 wx h1.out h2.out h3 h4 hn hnc hC hbs hA hwb
  have HP := Aside0.mk HPK
  have HB := Aside0.mk hb
  have HW := Aside0.mk hw
  have HWB := Aside0.mk hwb
  have HBW := Aside0.mk hbw
  clear HPK hC hbs hA hb hw hm hwb hbw hq
  go_enter Try.func49, Try.ntmps49
  go_wp2_with fail
  refine (HP.out q0 m _ ?r1 ?r2 ⟨by omega, by omega⟩ ⟨by omega, by omega⟩).mono ?_
  case r1 => exact ⟨RdAt.below HB.out ((Below.refl _ _).alloc (Nat.le_refl _) _)⟩
  case r2 => exact ⟨HW.out.alloc HW.out.size _⟩
  rintro e w1 ⟨k0, rfl, hk1, H1, H2, H3, H4⟩
  go_wp2_with fail
  go_loopw [5, 7] (fun v i wr => ∃ (j : Nat) (q : Int) (g c : Nat), i = .int .i64 j ∧ v = .slice (some ⟨g, 0, none⟩) j c ∧ (j : Int) ≤ 1 + k0 ∧ q0 ≤ q ∧ q ≤ q0 + j + 1 ∧ Aside0 (DrawLoop w.heap.size b A n cap w0 j q v wr) ∧ Aside0 (∀ j, j < w.heap.size → j ≠ b → wr.heap[j]? = w.heap[j]?)) (fun _ i _ => 10 - (intOf i).toNat)
  case atStart =>
    refine ⟨0, q0 + 1, w.heap.size, 0, rfl, rfl, by omega, by omega, by omega, ⟨(Row.nil w w.heap.size (Nat.le_refl _)).move (fun k h1 h2 => H3.out k (by have := HBW.out; omega)), H1.out, H2.out, ?_⟩, ⟨fun jj h1 h2 => ?_⟩⟩
    · have h1 := H4.out; simp at h1; omega
    · rw [H3.out jj h2, Below.heap_alloc _ _ _ h1]
  case round =>
    obtain ⟨j, q, g, c, rfl, rfl, hj, hq0, hq1, HD, HK⟩ := hrel
    have HD1 : Aside0 (RdAt b A n cap q wr) := ⟨HD.out.2.1⟩
    have HD2 : Aside0 (Below w0.heap.size w0 wr) := ⟨HD.out.2.2.1⟩
    by_cases hlt : (j : Int) < 1 + k0
    · have hjc : (j : Int) ≤ c := by have := (Row.cap HD.out.1).2.1; omega
      go_wp2_with fail
      refine (HP.out q ((j : Int) + 1) _ HD1 HD2 ⟨by omega, by omega⟩ ⟨by omega, by omega⟩).mono ?_
      rintro e w2 ⟨kn, rfl, hkj, H5, H6, H7, H8⟩
      have hkj' : (kn : Int) ≤ (j : Int) := by omega
      have hkc : (kn : Int) ≤ (c : Int) := by omega
      have hk0 : (0 : Int) ≤ (kn : Int) := by omega
      have HR : Aside0 (Row w2 w.heap.size j (.slice (some ⟨g, 0, none⟩) j c)) := ⟨HD.out.1.move (fun k h1 h2 => H7.out k (by have := HBW.out; omega))⟩
      have HS1 := Aside0.mk (HR.out.take kn (by omega))
      have HS3 := Aside0.mk (HR.out.drop kn (by omega))
      have hj10 : j ≤ 8 := by omega
      have HJ0 : (0 : Int) ≤ (j : Int) := by omega
      have HJ1 : (j : Int) ≤ 10 := by omega
      have hl1 : 0 + kn ≤ 1000 := by omega
      have hl2 : 0 + kn + 1 ≤ 1000 := by omega
      have hl3 : 0 + kn + 1 + (j - kn) ≤ 1000 := by omega
      have hl4 : 0 + kn + 1 + 0 ≤ 1000 := by omega
      have HE : Aside0 (Inv w2 (w2.alloc (.cells #[] 3)).drew (.slice (some ⟨w2.heap.size, 0, none⟩) 0 0) 0 none) := ⟨(inv_E (Below.refl _ _) _ rfl).drew⟩
      have HEB : Aside0 (Inv w2 ((w2.alloc (.cells #[] 3)).alloc (.cells #[.int .i64 j] 3)).drew (.slice (some ⟨w2.heap.size, 0, none⟩) 0 0) 0 (some (w2.heap.size + 1))) := ⟨by
        have h := ((inv_E (W0 := w2) (Below.refl _ _) _ rfl).alloc_one (j : Int) HJ0 HJ1 3).drew
        rwa [show (w2.alloc (.cells #[] 3)).heap.size = w2.heap.size + 1 by simp] at h⟩
      have HBE : Aside0 (Inv w2 ((w2.alloc (.cells #[.int .i64 j] 3)).alloc (.cells #[] 3)).drew (.slice (some ⟨w2.heap.size + 1, 0, none⟩) 0 0) 0 (some w2.heap.size)) := ⟨(inv_BE (Below.refl _ _) (j : Int) HJ0 HJ1 _ _ rfl _ rfl).drew⟩
      by_cases hck : c = kn
      case pos =>
        have HZ : ∀ W ad, Src W (some ad) (j - kn) := fun W ad => by rw [show j - kn = 0 by omega]; exact Src.none_ W ad
        have hck' : kn = c := hck.symm
        clear hck
        subst hck'
        have HS0 := Aside0.mk HZ
        clear HZ
        go_wp2_with fail
        go_region_held3 (fun w' => True) (trivial) (first
          | ((refine step_app (W0 := w2) (by rfl) (.tmp 24) (.tmp 27) 22 rfl Try.underlying22 (by kernel_rfl) _ 0 none _ kn kn rfl rfl HE.out (HS1.out _ HE.out.1) hl1 ?_; intro v3 w3 hi3))
          | ((refine step_app (W0 := w2) (by rfl) (.tmp 24) (.tmp 27) 22 rfl Try.underlying22 (by kernel_rfl) _ 0 (some (w2.heap.size + 1)) _ kn kn rfl rfl HEB.out (HS1.out _ HEB.out.1) hl1 ?_; intro v3 w3 hi3))
          | ((refine step_app (W0 := w2) (by rfl) (.tmp 24) (.tmp 27) 22 rfl Try.underlying22 (by kernel_rfl) _ 0 (some w2.heap.size) _ kn kn rfl rfl HBE.out (HS1.out _ HBE.out.1) hl1 ?_; intro v3 w3 hi3))
          | ((refine step_app (W0 := w2) (by rfl) (.tmp 28) (.tmp 30) 22 rfl Try.underlying22 (by kernel_rfl) _ (0 + kn) (some w3.heap.size) _ 1 1 rfl rfl (hi3.alloc_one (j : Int) HJ0 HJ1 3) ((hi3.alloc_one (j : Int) HJ0 HJ1 3).2.2 _ rfl).2.src hl2 ?_; intro v4 w4 hi4))
          | ((refine step_app (W0 := w2) (by rfl) (.tmp 28) (.tmp 30) 22 rfl Try.underlying22 (by kernel_rfl) _ (0 + kn) (some _) _ 1 1 rfl rfl hi3 (hi3.2.2 _ rfl).2.src hl2 ?_; intro v4 w4 hi4))
          | ((refine step_app (W0 := w2) (by rfl) (.tmp 31) (.tmp 34) 22 rfl Try.underlying22 (by kernel_rfl) _ (0 + kn + 1) _ _ (j - kn) _ rfl rfl hi4 (HS0.out _ _) hl3 ?_; intro v5 w5 hi5)))
        all_goals
          have hR5 : Row w5 w.heap.size (j + 1) v5 := hi5.row (by rw [H8.out]; exact HD.out.2.2.2) (by omega)
          obtain ⟨g5, c5, rfl⟩ := hR5.form (by omega)
          have HR5 := Aside0.mk hR5
          have HI5 := Aside0.mk hi5
          clear hR5 hi5
          go_wp2_with fail
          go_roundw
          case rel =>
            refine ⟨j + 1, q + 1, g5, c5, by go_num, rfl, by omega, by omega, by omega, ⟨HR5.out, H5.out.below HI5.out.1, H6.out.trans (HI5.out.1.mono H6.out.size), ?_⟩, ⟨fun jj h1 h2 => ?_⟩⟩
            · have h1 := HI5.out.1.size; have h2 := H8.out; have h3 := HD.out.2.2.2; omega
            · have h3 := H8.out; have h4 := HD.out.2.2.2
              rw [HI5.out.1.block jj (by omega), H7.out jj h2, HK.out jj h1 h2]
          case measure => simp [intOf]; omega
      case neg =>
        go_wp2_with fail
        go_region_held3 (fun w' => True) (trivial) (first
          | ((refine step_app (W0 := w2) (by rfl) (.tmp 24) (.tmp 27) 22 rfl Try.underlying22 (by kernel_rfl) _ 0 none _ kn c rfl rfl HE.out (HS1.out _ HE.out.1) hl1 ?_; intro v3 w3 hi3))
          | ((refine step_app (W0 := w2) (by rfl) (.tmp 24) (.tmp 27) 22 rfl Try.underlying22 (by kernel_rfl) _ 0 (some (w2.heap.size + 1)) _ kn c rfl rfl HEB.out (HS1.out _ HEB.out.1) hl1 ?_; intro v3 w3 hi3))
          | ((refine step_app (W0 := w2) (by rfl) (.tmp 24) (.tmp 27) 22 rfl Try.underlying22 (by kernel_rfl) _ 0 (some w2.heap.size) _ kn c rfl rfl HBE.out (HS1.out _ HBE.out.1) hl1 ?_; intro v3 w3 hi3))
          | ((refine step_app (W0 := w2) (by rfl) (.tmp 28) (.tmp 30) 22 rfl Try.underlying22 (by kernel_rfl) _ (0 + kn) (some w3.heap.size) _ 1 1 rfl rfl (hi3.alloc_one (j : Int) HJ0 HJ1 3) ((hi3.alloc_one (j : Int) HJ0 HJ1 3).2.2 _ rfl).2.src hl2 ?_; intro v4 w4 hi4))
          | ((refine step_app (W0 := w2) (by rfl) (.tmp 28) (.tmp 30) 22 rfl Try.underlying22 (by kernel_rfl) _ (0 + kn) (some _) _ 1 1 rfl rfl hi3 (hi3.2.2 _ rfl).2.src hl2 ?_; intro v4 w4 hi4))
          | ((refine step_app (W0 := w2) (by rfl) (.tmp 31) (.tmp 34) 22 rfl Try.underlying22 (by kernel_rfl) _ (0 + kn + 1) _ _ (j - kn) (c - kn) rfl rfl hi4 (HS3.out _ hi4.1) hl3 ?_; intro v5 w5 hi5)))
        all_goals
          have hR5 : Row w5 w.heap.size (j + 1) v5 := hi5.row (by rw [H8.out]; exact HD.out.2.2.2) (by omega)
          obtain ⟨g5, c5, rfl⟩ := hR5.form (by omega)
          have HR5 := Aside0.mk hR5
          have HI5 := Aside0.mk hi5
          clear hR5 hi5
          go_wp2_with fail
          go_roundw
          case rel =>
            refine ⟨j + 1, q + 1, g5, c5, by go_num, rfl, by omega, by omega, by omega, ⟨HR5.out, H5.out.below HI5.out.1, H6.out.trans (HI5.out.1.mono H6.out.size), ?_⟩, ⟨fun jj h1 h2 => ?_⟩⟩
            · have h1 := HI5.out.1.size; have h2 := H8.out; have h3 := HD.out.2.2.2; omega
            · have h3 := H8.out; have h4 := HD.out.2.2.2
              rw [HI5.out.1.block jj (by omega), H7.out jj h2, HK.out jj h1 h2]
          case measure => simp [intOf]; omega
    · have hjk : (j : Int) = 1 + k0 := by omega
      have hc := Row.cap HD.out.1
      have hc1 := hc.2.1
      have hc2 := hc.2.2.1
      have hj1 : (0 : Int) < (j : Int) := by omega
      obtain ⟨xs, hx1, hx2, hown⟩ := HD.out.1
      have HX1 := Aside0.mk hx1
      have HX2 := Aside0.mk hx2
      have HOWN := Aside0.mk hown
      have HJK := Aside0.mk hjk
      have HC2 := Aside0.mk hc2
      clear hx1 hx2 hown hjk hc hc2
      go_wp2_with fail
      refine (HP.out q 30 _ HD1 HD2 ⟨by have := HJK.out; omega, by have := HJK.out; omega⟩ ⟨by omega, by omega⟩).mono ?_
      rintro e w2 ⟨kz, rfl, hkz, H5, H6, H7, H8⟩
      have HO2 : Aside0 (w2.ownsRow w.heap.size 3 1 (.slice (some ⟨g, 0, none⟩) j c) j (encs (Value.int .i64) xs)) := ⟨own_move HOWN.out (fun k hk => H7.out k (by have h1 := (HOWN.out.lt k hk).1; have h2 := HBW.out; omega))⟩
      have HKK : Aside0 (∀ jj, jj < w.heap.size → jj ≠ b → w2.heap[jj]? = w.heap[jj]?) := ⟨fun jj h1 h2 => by rw [H7.out jj h2, HK.out jj h1 h2]⟩
      obtain ⟨cc0, cz0⟩ := own_at_of (d := (0 : Int)) HO2.out 0 (by omega) hj1
      have cc : w2.cell? ⟨g, 0, none⟩ = some (.int .i64 (rdOf 0 xs 0)) := cc0
      have cz : w2.frozen? ⟨g, 0, none⟩ = false := cz0
      clear cc0 cz0
      clear HOWN
      by_cases h0 : kz = 0
      case neg =>
        have h0' : ((kz : Int) == 0) = false := by rw [beq_eq_false_iff_ne]; omega
        go_wp2_with fail
        go_ret
        exact ⟨j, _, q + 1, rfl, by omega, by have := HJK.out; omega, by omega, by have := HJK.out; omega, ⟨xs, HX1.out, HX2.out, HO2.out⟩, H5.out, H6.out, HKK.out⟩
      case pos =>
        subst h0
        go_wp2_with fail
        go_ret
        obtain ⟨hs1, hs2⟩ := own_store_of HO2.out 0 ((1 : Int) + k0)
        have hs1' : (w2.setCell ⟨g, 0, none⟩ (.int .i64 (1 + k0))).ownsRow w.heap.size 3 1 (.slice (some ⟨g, 0, none⟩) j c) j (encs (Value.int .i64) (xs.set 0 (1 + k0))) := hs1
        have hgb : g ≠ b := by have h1 := HC2.out; have h2 := HBW.out; omega
        refine ⟨j, _, q + 1, rfl, by omega, by have := HJK.out; omega, by omega, by have := HJK.out; omega, ⟨xs.set 0 (1 + k0), by rw [List.length_set]; exact HX1.out, ?_, hs1'⟩, ?_, H6.out.setCell (p := ⟨g, 0, none⟩) (by have h1 := HC2.out; have h2 := HBW.out; have h3 := HWB.out; show w0.heap.size ≤ g; omega) _, ?_⟩
        · intro x hx
          rcases List.mem_or_eq_of_mem_set hx with hx | hx
          · exact HX2.out x hx
          · omega
        · have h := H5.out
          unfold RdAt at *
          rw [Below.heap_setCell _ _ _ _ (fun e => hgb e.symm), h]
        · intro jj h1 h2
          rw [Below.heap_setCell _ _ _ _ (by have := HC2.out; show jj ≠ g; omega)]
          exact HKK.out jj h1 h2
end Go.Proofs.Ytlhbdeebkkpkmaa
