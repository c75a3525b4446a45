/- PlanTight: the plan without rows and columns that are as the one before. -/
import Derived.Test.YtdhnjecbdclmaaaKICloneR
import Derived.Test.YtdhnjecbdclmaaaKISpecWaysM
namespace Go.Proofs.Ytdhnjecbdclmaaa
open Go.RowKit Go.Shelf Go.Lib Go.Sort Go.Proofs.YtdhnjecbdclmaaaW.PrintWords Go.Proofs.YtdhnjecbdclmaaaW.PrintMore
set_option linter.unusedVariables false
set_option linter.unusedSimpArgs false
theorem enter_d (args : Array Value) (W : World) : (callFunc 114 args).run Try.prog W = .ok (.enter 114 args) W := by kernel_rfl
theorem enter_c (args : Array Value) (W : World) : (callFunc 117 args).run Try.prog W = .ok (.enter 117 args) W := by kernel_rfl
theorem enter_1 (args : Array Value) (W : World) : (callFunc 109 args).run Try.prog W = .ok (.enter 109 args) W := by kernel_rfl
theorem ColW.start (w2 : World) (o : Obj) : ColW (w2.heap.size + 1) ((w2.alloc o).alloc (.cells #[.slice none 0 0] 37)) ((w2.alloc o).alloc (.cells #[.slice none 0 0] 37)) [] := by
  refine ⟨by simp, rfl, rfl, rfl, Nat.le_refl _, fun _ _ _ => rfl, .slice none 0 0, ?_, World.ownsRow_nil _ _ _ _⟩
  have := heap_alloc_new (w2.alloc o) (.cells #[.slice none 0 0] 37)
  simpa using this
theorem ColW.below {x n : Nat} {w W0 W : World} {cols : List Int} (h : ColW x W0 W cols) (hb : Below n w W0) (hx : n ≤ x) : Below n w W :=
  ⟨h.os.trans hb.os, h.tape.trans hb.tape, h.output.trans hb.output, Nat.le_trans hb.size h.size, fun k hk => by
    rw [← hb.block k hk]
    refine h.block k ?_ (by omega)
    have := h.lt
    omega⟩
def colsI (cl : Nat → Nat → Int) (h c : Nat) : List Int := (keptL (keptC cl h) c).map fun k : Nat => (k : Int)
set_option maxRecDepth 100000 in
set_option maxHeartbeats 8000000 in
theorem tight1_any (fb h wd : Nat) (cl : Nat → Nat → Int) (boxes : List Box) (hh : 1 ≤ h ∧ h ≤ 6) (hw : 1 ≤ wd ∧ wd ≤ 6) (w : World) (hf : FloorR w fb h wd cl boxes) :
    Calls Try.prog 109 #[.pointer (some ⟨fb, 0, none⟩)] w fun e w' => Grown w w' (tightH cl h wd) (tightW cl h wd) (tightV cl h wd) e := by
  obtain ⟨g, rb, RA, rc, h1, h2, h3, h4, h5, h6⟩ := hf
  have H5 := Aside0.mk h5
  have HCL := cloneRows_any g h wd rb hh w (fun r hr => (h5 r hr).2.1)
  have HWI : Aside0 (∀ W, Below w.heap.size w W → Calls Try.prog 113 #[.pointer (some ⟨fb, 0, none⟩)] W fun e w' => e = .returned (.int .i64 wd) ∧ w' = W) := ⟨fun W hW => wide_any _ g h h hh.1 _ wd wd W ((hW.cell (p := ⟨fb, 0, none⟩) h1).trans h3) ((hW.cell (p := ⟨g, 0, none⟩) h2).trans (h5 0 (by omega)).2.1)⟩
  clear h4 h5 h6
  go_enter Try.func109, Try.ntmps109
  go_wp2_with fail
  refine HCL.mono ?_
  rintro e w1 ⟨B, cap, rfl, c1, c2, c3, c4, c5⟩
  have HCP := compactRows_any B cap h wd rb cl w1 hh hw.2 c1 c4 (fun k hk => ⟨by have := (H5.out k hk).1; omega, fun c hc => (c5.cell (p := ⟨rb k, c, none⟩) (H5.out k hk).1).trans ((H5.out k hk).2.2 c hc)⟩)
  have HB1 := Aside0.mk c5
  have H4 := Aside0.mk c4
  clear c4 c5
  go_wp2_with fail
  refine HCP.mono ?_
  rintro e w2 ⟨rfl, hR⟩
  have HB2 : Aside0 (Below w.heap.size w w2) := ⟨HB1.out.trans (hR.below c2)⟩
  have HR := Aside0.mk hR
  clear hR h1 h2 h3
  go_wp2_with fail
  obtain ⟨kr, hkr⟩ : ∃ kr : Nat → Nat, (fun r => (keptL (keptR cl wd) h).getD r 0) = kr := ⟨_, rfl⟩
  obtain ⟨tH, htH⟩ : ∃ tH, tightH cl h wd = tH := ⟨_, rfl⟩
  obtain ⟨xr, hxr⟩ : ∃ xr, w2.heap.size = xr := ⟨_, rfl⟩
  have hkl : (keptL (keptR cl wd) h).length = tH := htH
  have KR : Aside0 (∀ r, r < tH → kr r < h ∧ (keptL (keptR cl wd) h)[r]? = some (kr r)) := ⟨fun r hr => by
    have e : (keptL (keptR cl wd) h)[r]? = some (kr r) := by
      rw [← hkr]
      show _ = some ((keptL (keptR cl wd) h).getD r 0)
      rw [List.getD_eq_getElem?_getD, List.getElem?_eq_getElem (by omega)]; rfl
    exact ⟨List.mem_range.1 (List.mem_filter.1 (List.mem_of_getElem? e)).1, e⟩⟩
  have hB2 : B < xr := by
    obtain ⟨q, hq⟩ := HR.out
    rw [← hxr, hq, size_putRow]; exact c3
  have hws : w.heap.size ≤ xr := by rw [← hxr]; exact HB2.out.size
  have ROW : Aside0 (∀ r, r < tH → w2.cell? ⟨B, r, none⟩ = some (.slice (some ⟨rb (kr r), 0, none⟩) wd wd)) := ⟨fun r hr => by
    refine (RowW.cells (x := some (kr r)) H4.out HR.out (by rw [List.length_append, List.length_map, List.length_replicate, hkl, htH]; have := tightH_le cl h wd; omega) ?_).1
    rw [List.getElem?_append_left (by rw [List.length_map, hkl]; exact hr), List.getElem?_map, (KR.out r hr).2]; rfl⟩
  rw [htH]
  obtain ⟨W0, hW0⟩ : ∃ W0, (w2.alloc (.cells #[.slice (some ⟨B, 0, none⟩) tH cap] 77)).alloc (.cells #[.slice none 0 0] 37) = W0 := ⟨_, rfl⟩
  have hC0 : ColW (xr + 1) W0 W0 [] := by rw [← hW0, ← hxr]; exact ColW.start w2 _
  have hS : W0.heap.size = xr + 2 := by rw [← hW0, ← hxr]; simp
  have hA : ∀ a : Addr, a.block < xr → W0.cell? a = w2.cell? a := fun a ha => by
    rw [← hW0]
    rw [World.cell?_of_block (Below.heap_alloc _ _ _ (by simp; omega)), World.cell?_of_block (Below.heap_alloc _ _ _ (by omega))]
  have hX : W0.cell? ⟨xr, 0, none⟩ = some (.slice (some ⟨B, 0, none⟩) tH cap) := by
    rw [← hW0, World.cell?_of_block (Below.heap_alloc _ _ _ (by simp; omega)), ← hxr]
    rw [Lib.cell_of_heap (heap_alloc_new w2 _)]; rfl
  have hBW : Below w.heap.size w W0 := by
    rw [← hW0]
    exact (HB2.out.alloc (by omega) _).alloc (by simp; omega) _
  have htW := tightW_le cl h wd
  have HA := Aside0.mk hA
  have HX := Aside0.mk hX
  have HC0 := Aside0.mk hC0
  have HBW := Aside0.mk hBW
  have htH6 : tH ≤ 6 := by have := tightH_le cl h wd; omega
  have KT : Aside0 (∀ c, c < wd → ((List.range tH).any fun r => decide (c = 0) || cl (kr r) c != cl (kr r) (c - 1)) = keptC cl h c) := ⟨fun c hc => by
    rw [← hkr, ← htH]; exact kept_tells cl h wd c hh.1 hc⟩
  rw [hxr, hW0]
  clear hA hX hC0 hBW hkl HR H4 HCL HCP
  refine (HWI.out W0 HBW.out).mono ?_
  rintro e w3 ⟨rfl, rfl⟩
  clear HWI
  go_wp2_with fail
  go_loopg [15] wd (fun g s15 wr => ∃ c : Nat, s15 = .int .i64 c ∧ c ≤ wd ∧ wd - c ≤ g ∧ Aside0 (ColW (xr + 1) w3 wr (colsI cl h c)))
  case atStart => exact ⟨0, rfl, by omega, by omega, HC0⟩
  case round =>
    obtain ⟨c, rfl, hcw, hg, HC⟩ := hrel
    by_cases hlt : (c : Int) < (wd : Int)
    · have hcwd : c < wd := by omega
      have hsz := HC.out.size
      have cxr : wr.cell? ⟨xr, 0, none⟩ = some (.slice (some ⟨B, 0, none⟩) tH cap) := (HC.out.cell (a := ⟨xr, 0, none⟩) (by show xr < w3.heap.size; omega) (by show xr ≠ xr + 1; omega)).trans HX.out
      have cxr2 : (wr.alloc (.cells #[.int .i64 c] 3)).cell? ⟨xr, 0, none⟩ = some (.slice (some ⟨B, 0, none⟩) tH cap) := (World.cell?_of_block (Below.heap_alloc _ _ _ (by show xr < wr.heap.size; omega))).trans cxr
      have HCON : Aside0 (Calls Try.prog 115 #[.slice (some ⟨B, 0, none⟩) tH cap, .func (.func 114) #[] #[.pointer (some ⟨wr.heap.size, 0, none⟩)]] (wr.alloc (.cells #[.int .i64 c] 3)) fun e w' => e = .returned (.bool (keptC cl h c)) ∧ ∃ q, w' = (wr.alloc (.cells #[.int .i64 c] 3)).drewN q) := ⟨by
        rw [← KT.out c hcwd]
        refine contains_dr B tH cap (by omega) (fun r => .slice (some ⟨rb (kr r), 0, none⟩) wd wd) (fun r => decide (c = 0) || cl (kr r) c != cl (kr r) (c - 1)) 114 #[.pointer (some ⟨wr.heap.size, 0, none⟩)] _ (fun r hr => ?_) enter_d (fun r q hr => ?_)
        · rw [World.cell?_of_block (Below.heap_alloc _ _ _ (by show B < wr.heap.size; omega)), HC.out.cell (a := ⟨B, r, none⟩) (by show B < w3.heap.size; omega) (by show B ≠ xr + 1; omega), HA.out _ hB2]
          exact ROW.out r hr
        · have hcell : ((wr.alloc (.cells #[.int .i64 c] 3)).drewN q).cell? ⟨wr.heap.size, 0, none⟩ = some (.int .i64 c) := by
            show (wr.alloc (.cells #[.int .i64 c] 3)).cell? ⟨wr.heap.size, 0, none⟩ = _
            rw [Lib.cell_of_heap (heap_alloc_new wr _)]; rfl
          have hrow : ∀ j, j < wd → ((wr.alloc (.cells #[.int .i64 c] 3)).drewN q).cell? ⟨rb (kr r), j, none⟩ = some (.int .i64 (cl (kr r) j)) := fun j hj => by
            obtain ⟨r1, r2, r3⟩ := H5.out (kr r) (KR.out r hr).1
            show (wr.alloc (.cells #[.int .i64 c] 3)).cell? ⟨rb (kr r), j, none⟩ = _
            rw [World.cell?_of_block (Below.heap_alloc _ _ _ (by show rb (kr r) < wr.heap.size; omega)), (HC.out.below HBW.out (by omega)).cell (p := ⟨rb (kr r), j, none⟩) r1]
            exact r3 j hj
          by_cases h0 : c = 0
          · subst h0
            exact (differs0_any _ wd wd wr.heap.size _ hcell).mono fun e w' ⟨he, m, hm⟩ => ⟨by rw [he]; rfl, q + m, by rw [hm, World.drewN_drewN]⟩
          · exact (differs1_any (rb (kr r)) wd wd wr.heap.size c (cl (kr r) c) (cl (kr r) (c - 1)) (by omega) hcwd hw.2 _ hcell (hrow c hcwd) (hrow (c - 1) (by omega))).mono fun e w' ⟨he, m, hm⟩ => ⟨by rw [he, decide_eq_false h0, Bool.false_or], q + m, by rw [hm, World.drewN_drewN]⟩⟩
      go_wp2_with fail
      refine HCON.out.mono ?_
      rintro e w5 ⟨rfl, q, hw5⟩
      clear HCON
      have HW5 := Aside0.mk hw5
      have C5 : ColW (xr + 1) w3 w5 (colsI cl h c) := by rw [hw5]; exact (HC.out.alloc _).drewN q
      have hs5 : w5.heap.size = wr.heap.size + 1 := by rw [hw5]; simp
      have cb5 : w5.cell? ⟨wr.heap.size, 0, none⟩ = some (.int .i64 c) := by
        rw [hw5]
        show (wr.alloc (.cells #[.int .i64 c] 3)).cell? ⟨wr.heap.size, 0, none⟩ = _
        rw [Lib.cell_of_heap (heap_alloc_new wr _)]; rfl
      have HC5 := Aside0.mk C5
      obtain ⟨v, hv, hown⟩ := C5.has
      have cx5 : w5.cell? ⟨xr + 1, 0, none⟩ = some v := by rw [Lib.cell_of_heap hv]; rfl
      have HO := Aside0.mk hown
      have HV := Aside0.mk hv
      have hcs : (colsI cl h c).length ≤ 6 := by
        unfold colsI
        rw [List.length_map]
        have := keptL_le (keptC cl h) c
        omega
      clear hown hv C5 hw5
      cases hk : keptC cl h c with
      | true =>
        obtain ⟨i0, hi, hz0, hz1, hz2⟩ := info_parts info_int
        have HK := Aside0.mk hk
        have HSX := Aside0.mk (And.intro hS (And.intro hs5 hsz))
        have h35 := HC5.out.size
        have HZ := Aside0.mk h35
        clear hk hS hs5 hsz h35
        go_wp2_with (at_builtin; refine wpList_append_own _ rfl _ _ 37 rfl w3.heap.size 3 i0 (.int .i64 0) 1 8 Try.underlying37 hi hz0 hz1 hz2 rfl (by decide) _ _ _ rfl (HO.out.alloc _) ⟨w5.heap.size, 0, none⟩ 1 1 [.int .i64 c] rfl rfl ?c1 ?c2 ?c3 ?c4 ?c5 ?_)
        case c1 =>
          intro j u hj
          match j, hj with
          | 0, hj => simp at hj; subst hj; simp [Addr.add]
        case c2 => intro u hu; simp at hu; subst hu; rfl
        case c3 => unfold maxLen; omega
        case c4 => omega
        case c5 => have := HZ.out; simp; omega
        intro v' w6 hown' hgrow _
        have hx6 : some (xr + 1) ≠ v.ownBlock := fun e => by
          have := (HO.out.lt (xr + 1) e.symm).1
          have := HSX.out.1
          omega
        have hx5 : xr + 1 < w5.heap.size := (Array.getElem?_eq_some_iff.1 HV.out).1
        have hb6 : w6.heap[xr + 1]? = some (.cells #[v] 37 (0, 0)) := by
          rw [hgrow.block (xr + 1) (by simp; omega) hx6, Below.heap_alloc _ _ _ (by omega)]
          exact HV.out
        have d0 : w6.cell? ⟨xr + 1, 0, none⟩ = some v := by rw [Lib.cell_of_heap hb6]; rfl
        have f0 : w6.frozen? ⟨xr + 1, 0, none⟩ = false := Lib.frozen_of_heap hb6 0
        have HP : Aside0 (ColW (xr + 1) w3 (w6.setCell ⟨xr + 1, 0, none⟩ v') (colsI cl h c ++ [(c : Int)])) := ⟨(HC5.out.alloc _).put ((Below.heap_alloc _ _ _ (by omega)).trans HV.out) (HO.out.alloc _) hgrow hown'⟩
        obtain ⟨g', cap', rfl⟩ : ∃ g' cap', v' = .slice (some ⟨g', 0, none⟩) ((colsI cl h c).length + 1) cap' := by
          rcases hown'.2 with ⟨_, h0⟩ | ⟨g', cap', cur, hv, _⟩
          · omega
          · exact ⟨g', cap', hv⟩
        clear hown' hgrow hb6 hx6
        go_wp2_with fail
        go_roundg (wd - (c + 1))
        case measure => omega
        case rel =>
          refine ⟨c + 1, by go_num, by omega, Nat.le_refl _, ⟨?_⟩⟩
          have e : colsI cl h (c + 1) = colsI cl h c ++ [(c : Int)] := by unfold colsI; rw [keptL_yes HK.out, List.map_append]; rfl
          rw [e]
          exact HP.out
      | false =>
        have HK := Aside0.mk hk
        clear hk
        go_wp2_with fail
        go_roundg (wd - (c + 1))
        case measure => omega
        case rel =>
          refine ⟨c + 1, by go_num, by omega, Nat.le_refl _, ⟨?_⟩⟩
          have e : colsI cl h (c + 1) = colsI cl h c := by unfold colsI; rw [keptL_no HK.out]
          rw [e]
          exact HC5.out
    · have hcw2 : c = wd := by omega
      subst hcw2
      have hsz := HC.out.size
      have hlt := HC.out.lt
      have cxr : wr.cell? ⟨xr, 0, none⟩ = some (.slice (some ⟨B, 0, none⟩) tH cap) := (HC.out.cell (a := ⟨xr, 0, none⟩) (by show xr < w3.heap.size; omega) (by show xr ≠ xr + 1; omega)).trans HX.out
      obtain ⟨v, hv, hown⟩ := HC.out.has
      have cx : wr.cell? ⟨xr + 1, 0, none⟩ = some v := by rw [Lib.cell_of_heap hv]; rfl
      have hcl : (colsI cl h c).length = tightW cl h c := by unfold colsI; rw [List.length_map]; rfl
      have hW1 : 1 ≤ tightW cl h c := by rw [tightW_eq cl h hw.1]; omega
      have hH1 : 1 ≤ tH := by rw [← htH, tightH_eq cl c hh.1]; omega
      have hown2 := hown
      rcases hown2.2 with ⟨_, h0⟩ | ⟨gC, capC, cur, rfl, hb, hg2, hn, hm, hs, ht⟩
      · omega
      have HBL : Aside0 (Calls Try.prog 116 #[.int .i64 tH, .int .i64 (tightW cl h c), .func (.func 117) #[] #[.pointer (some ⟨xr, 0, none⟩), .pointer (some ⟨xr + 1, 0, none⟩)]] wr fun e w' => Grown wr w' tH (tightW cl h c) (tightV cl h c) e) := ⟨by
        refine blank_ro tH (tightW cl h c) ⟨hH1, by omega⟩ ⟨hW1, by omega⟩ 117 #[.pointer (some ⟨xr, 0, none⟩), .pointer (some ⟨xr + 1, 0, none⟩)] (tightV cl h c) wr enter_c fun r k W hr hk hB => ?_
        have hk2 : k < (keptL (keptC cl h) c).length := hk
        have hkm : (keptL (keptC cl h) c).getD k 0 < c := by
          have e : (keptL (keptC cl h) c)[k]? = some ((keptL (keptC cl h) c).getD k 0) := by
            rw [List.getD_eq_getElem?_getD, List.getElem?_eq_getElem hk2]; rfl
          exact List.mem_range.1 (List.mem_filter.1 (List.mem_of_getElem? e)).1
        have hck : (encs (Value.int .i64) (colsI cl h c))[k]? = some (.int .i64 ((keptL (keptC cl h) c).getD k 0 : Nat)) := by
          unfold encs colsI
          rw [List.getElem?_map, List.getElem?_map, List.getElem?_eq_getElem hk2, List.getD_eq_getElem?_getD, List.getElem?_eq_getElem hk2]; rfl
        rw [hcl] at hown
        obtain ⟨r1, r2, r3⟩ := H5.out (kr r) (KR.out r hr).1
        have hgC := (Array.getElem?_eq_some_iff.1 hg2).1
        refine (tight2_any xr (xr + 1) B tH cap gC (tightW cl h c) capC (rb (kr r)) c c r k ((keptL (keptC cl h) c).getD k 0) (cl (kr r) ((keptL (keptC cl h) c).getD k 0)) hr hk hkm W ?_ ?_ ?_ ?_ ?_).mono ?_
        · exact (hB.cell (p := ⟨xr, 0, none⟩) (by show xr < wr.heap.size; omega)).trans cxr
        · rw [hB.cell (p := ⟨xr + 1, 0, none⟩) (by show xr + 1 < wr.heap.size; omega), cx, hcl]
        · rw [hB.cell (p := ⟨B, r, none⟩) (by show B < wr.heap.size; omega), HC.out.cell (a := ⟨B, r, none⟩) (by show B < w3.heap.size; omega) (by show B ≠ xr + 1; omega), HA.out _ hB2]
          exact ROW.out r hr
        · exact (hB.cell (p := ⟨gC, k, none⟩) hgC).trans (owns_cell hown hck).1
        · rw [hB.cell (p := ⟨rb (kr r), _, none⟩) (by show rb (kr r) < wr.heap.size; omega), (HC.out.below HBW.out (by omega)).cell (p := ⟨rb (kr r), _, none⟩) r1]
          exact r3 _ hkm
        · rintro e W' ⟨rfl, q, rfl⟩
          refine ⟨?_, rfl, rfl, rfl, Nat.le_refl _, fun _ _ => rfl⟩
          unfold tightV
          rw [← hkr]⟩
      have HBR := Aside0.mk (HC.out.below HBW.out (n := w.heap.size) (by omega))
      rw [hcl] at cx
      clear hown hb hg2 hn hm hs ht hv hcl
      go_wp2_with fail
      refine HBL.out.mono ?_
      rintro e w7 ⟨gb, rows, rfl, g1, g2, g3⟩
      have HG := Aside0.mk (And.intro g1 (And.intro g2 g3))
      clear g1 g2 g3
      go_wp2_with fail
      go_ret
      rw [htH]
      exact ⟨gb, rows, rfl, HG.out.1, HG.out.2.1, HBR.out.trans (HG.out.2.2.mono HBR.out.size)⟩
end Go.Proofs.Ytdhnjecbdclmaaa
