/- The program's steps: fewest steps from a room to each one. -/
import Derived.Test.YtbpppchkgjcahaaKCShelf2M
namespace Go.Proofs.Ytbpppchkgjcahaa
open Go.RowKit Go.Shelf Go.Proofs.YtbpppchkgjcahaaW.PrintWords Go.Proofs.YtbpppchkgjcahaaW.PrintMore
set_option linter.unusedVariables false
set_option linter.unusedSimpArgs false
def metTo (nb : Nat → Nat → Bool) (n x : Nat) (D : List Int) (q : List Nat) (k : Nat) : List Int × List Nat := ((nearL nb n x).take k).foldl (visit (dAt D x)) (D, q)
theorem metTo_succ {nb : Nat → Nat → Bool} {n x : Nat} {D : List Int} {q : List Nat} {k : Nat} (hk : k < (nearL nb n x).length) : metTo nb n x D q (k + 1) = visit (dAt D x) (metTo nb n x D q k) (nearL nb n x)[k] := by
  unfold metTo
  rw [List.take_succ_eq_append_getElem hk, List.foldl_append]; rfl
theorem metTo_all (nb : Nat → Nat → Bool) (n x : Nat) (D : List Int) (q : List Nat) {k : Nat} (hk : (nearL nb n x).length ≤ k) : metTo nb n x D q k = (nearL nb n x).foldl (visit (dAt D x)) (D, q) := by
  unfold metTo
  rw [List.take_of_length_le hk]
theorem metTo_facts {nb : Nat → Nat → Bool} {n a x : Nat} {D : List Int} {q : List Nat} (h : BInv nb n a D (x :: q)) (k : Nat) :
    (metTo nb n x D q k).1.length = n ∧ dAt (metTo nb n x D q k).1 x = dAt D x ∧ (metTo nb n x D q k).2.length ≤ q.length + negN D := by
  obtain ⟨h1, h2⟩ := h.inq x List.mem_cons_self
  have m := met_fold (dAt D x) h2 ((nearL nb n x).take k) D q (fun y hy => by rw [h.len]; exact (nearL_mem.1 (List.mem_of_mem_take hy)).1)
  obtain ⟨m1, m2, new, m3, m4, m5⟩ := m
  refine ⟨by unfold metTo; rw [m1, h.len], ?_, ?_⟩
  · unfold metTo
    rw [m2 x (by rw [h.len]; exact h1), if_neg (by omega)]
  · unfold metTo
    rw [m3, List.length_append]; omega
theorem nearTo_get {nb : Nat → Nat → Bool} {a n k : Nat} (hk : k < (nearTo nb a n).length) : ∃ hk' : k < (nearL nb n a).length, (nearTo nb a n)[k] = (((nearL nb n a)[k] : Nat) : Int) := by
  unfold nearTo at hk ⊢
  rw [List.length_map] at hk
  exact ⟨hk, by rw [List.getElem_map]⟩
theorem numsW_same {W : World} {g n : Nat} {o o' : Nat → Int} (h : NumsW W g n o) (e : ∀ x, x < n → o x = o' x) : NumsW W g n o' := by
  unfold NumsW at h ⊢
  rw [h]
  congr 3
  apply List.map_congr_left
  intro x hx
  rw [e x (List.mem_range.1 hx)]
def RowC (W : World) (A : Option Addr) (xs : List Int) : Prop := ∀ k (hk : k < xs.length), ∃ gr, A = some ⟨gr, 0, none⟩ ∧ W.cell? ⟨gr, k, none⟩ = some (.int .i64 xs[k])
theorem RowC.keep {W W' : World} {A : Option Addr} {xs : List Int} (h : RowC W A xs) (hk : ∀ j, A = some ⟨j, 0, none⟩ → W'.heap[j]? = W.heap[j]?) : RowC W' A xs := fun k hkl => by
  obtain ⟨gr, e, hc⟩ := h k hkl
  exact ⟨gr, e, by rw [World.cell?_of_block (w := W) (hk gr e)]; exact hc⟩
theorem rowC_own {W : World} {base : Nat} {A : Option Addr} {c : Nat} {xs : List Int} (h : W.ownsRow base 3 1 (.slice A xs.length c) xs.length (nums .i64 xs)) : RowC W A xs := fun k hk => by
  obtain ⟨g, rfl, _, _, _, _, hH⟩ := own_holds h (by omega)
  refine ⟨g, rfl, ?_⟩
  have := (hH k (by simpa using hk)).1
  rw [Nat.zero_add] at this
  rw [this]
  congr 2
  rw [getElem!_pos _ k (by simpa using hk)]
  simp
theorem NumsW.keep {W W' : World} {g n : Nat} {o : Nat → Int} (h : NumsW W g n o) (hk : W'.heap[g]? = W.heap[g]?) : NumsW W' g n o := by
  unfold NumsW at h ⊢
  rw [hk]; exact h
theorem NumsW.lt {W : World} {g n : Nat} {o : Nat → Int} (h : NumsW W g n o) : g < W.heap.size := (Array.getElem?_eq_some_iff.1 h).1
set_option maxRecDepth 100000 in
set_option maxHeartbeats 16000000 in
theorem steps_any (g n : Nat) (rb : Nat → Nat) (T : Nat → Nat → Int) (nb : Nat → Nat → Bool) (hn : 1 ≤ n ∧ n ≤ 9) (hT : ∀ a b, decide (0 < T a b) = nb a b) (a : Nat) (ha : a < n) (w : World) (hI : IntsW w g n rb T) :
    Calls Try.prog 75 #[.slice (some ⟨g, 0, none⟩) n n, .int .i64 (a : Int)] w fun e w' => ∃ go, e = .returned (.slice (some ⟨go, 0, none⟩) n n) ∧ w.heap.size ≤ go ∧ NumsW w' go n (dAt (stepsL nb n a)) ∧ Below w.heap.size w w' := by
  have HI := Aside0.mk hI
  have HNA := Aside0.mk (fun x (hx : x < n) W (hW : Below w.heap.size w W) => near_any g n rb T nb hn.2 hT x hx W (hI.below hW))
  have a0 : (0 : Int) ≤ (a : Int) := by omega
  have an : (a : Int) < (n : Int) := by omega
  have hc := heap_alloc_new w (.cells #[.int .i64 (-1)] 3)
  have HRP := Aside0.mk (repeat_any (-1) w.heap.size 1 n hn (w.alloc (.cells #[.int .i64 (-1)] 3)) (by simp) (by rw [Lib.cell_of_heap hc]; rfl))
  clear hI hT hc
  go_enter Try.func75, Try.ntmps75
  go_wp2_with fail
  refine HRP.out.mono ?_
  rintro e w2 ⟨⟨go, rfl, hgo, hN⟩, hb2⟩
  have HB2 : Aside0 (Below w.heap.size w w2) := ⟨((Below.refl _ w).alloc (Nat.le_refl _) _).trans (hb2.mono (by simp))⟩
  have hgo1 : w.heap.size + 1 ≤ go := by simpa using hgo
  obtain ⟨s1, s2⟩ := hN.at ha
  have HN := Aside0.mk hN
  have HGO := Aside0.mk hgo1
  have HST : Aside0 (NumsW (w2.setCell ⟨go, a, none⟩ (.int .i64 0)) go n (dAt (startL n a))) := ⟨numsW_same (hN.set ha 0) fun x hx => by rw [dAt_start ha hx]; rfl⟩
  clear hb2 hN hgo hgo1
  go_wp2_with fail
  have HL0 : Aside0 (go < w2.heap.size) := ⟨HN.out.lt⟩
  have HBS : Aside0 (Below w.heap.size w (w2.setCell ⟨go, a, none⟩ (.int .i64 0))) := ⟨Below.setCell (p := ⟨go, a, none⟩) HB2.out (by have := HGO.out; show w.heap.size ≤ go; omega) _⟩
  have HQ0 : Aside0 (QAt ((w2.setCell ⟨go, a, none⟩ (.int .i64 0)).alloc (.cells #[.int .i64 (a : Int)] 3)) w.heap.size (fun j => j = go) (w2.setCell ⟨go, a, none⟩ (.int .i64 0)).heap.size 0 1 [a]) := ⟨QAt.one a HBS.out.size (by rw [World.size_setCell]; have := HL0.out; omega)⟩
  have HS1 : Aside0 (NumsW ((w2.setCell ⟨go, a, none⟩ (.int .i64 0)).alloc (.cells #[.int .i64 (a : Int)] 3)) go n (dAt (startL n a)) ∧ Below w.heap.size w ((w2.setCell ⟨go, a, none⟩ (.int .i64 0)).alloc (.cells #[.int .i64 (a : Int)] 3))) := ⟨HST.out.keep (Below.heap_alloc _ _ _ (by rw [World.size_setCell]; exact HL0.out)), HBS.out.alloc HBS.out.size _⟩
  have hqs : (w2.setCell ⟨go, a, none⟩ (.int .i64 0)).heap.size = w2.heap.size := World.size_setCell ..
  rw [hqs] at HQ0
  have HF0 : Aside0 (negN (startL n a) + [a].length ≤ n) := ⟨by have := start_neg ha; simp; omega⟩
  clear hqs s1 s2
  go_loopg [6] n (fun gg v wr => ∃ (f qg off cap m : Nat), f ≤ gg ∧ v = .slice (some ⟨qg, off, none⟩) m cap ∧ m ≤ 9 ∧ Aside0 (∃ D q, m = q.length ∧ negN D + q.length ≤ f ∧ f ≤ n ∧ bfs nb n f D q = stepsL nb n a ∧ BInv nb n a D q ∧ NumsW wr go n (dAt D) ∧ QAt wr w.heap.size (fun j => j = go) qg off cap q ∧ Below w.heap.size w wr))
  case atStart => exact ⟨n, w2.heap.size, 0, 1, 1, Nat.le_refl _, rfl, by omega, ⟨startL n a, [a], rfl, HF0.out, Nat.le_refl _, rfl, start_inv ha, HS1.out.1, HQ0.out, HS1.out.2⟩⟩
  case round =>
    obtain ⟨f, qg, off, cap, m, hfg, rfl, hm9, HD⟩ := hrel
    obtain ⟨wo, rfl⟩ : ∃ wo : World, wo = wr := ⟨_, rfl⟩
    obtain ⟨D, q, hm, hk, hgn, hbf, hinv, hnum, hq, hbl⟩ := HD.out
    cases q with
    | nil =>
      have hm0 : m = 0 := hm
      subst hm0
      have HR : Aside0 (NumsW wo go n (dAt (stepsL nb n a))) := ⟨by rw [← hbf, bfs_nil]; exact hnum⟩
      have HBL := Aside0.mk hbl
      clear hm hk hgn hbf hinv hnum hq hbl HD
      go_wp2_with fail
      go_ret
      exact ⟨go, rfl, by have := HGO.out; omega, HR.out, HBL.out⟩
    | cons x q =>
      obtain ⟨m', rfl⟩ : ∃ m', m = m' + 1 := ⟨q.length, hm⟩
      obtain ⟨gg', rfl⟩ : ∃ g', f = g' + 1 := ⟨f - 1, by rw [List.length_cons] at hk; omega⟩
      have hx := (hinv.inq x List.mem_cons_self).1
      have HC0 := hq.head
      have HD1 := Aside0.mk hinv
      have HD2 := Aside0.mk hnum
      have HD3 := Aside0.mk hq
      have HD4 := Aside0.mk hbl
      have HD5 : Aside0 (m' = q.length ∧ negN D + q.length ≤ gg' ∧ gg' + 1 ≤ n ∧ bfs nb n gg' (metTo nb n x D q (nearL nb n x).length).1 (metTo nb n x D q (nearL nb n x).length).2 = stepsL nb n a) := ⟨by simpa using hm, by rw [List.length_cons] at hk; omega, hgn, by rw [metTo_all nb n x D q (Nat.le_refl _)]; exact hbf⟩
      have HLT : Aside0 (qg < wo.heap.size ∧ go < wo.heap.size) := ⟨hq.lt, hnum.lt⟩
      have hq1 : (0 : Int) < ((m' + 1 : Nat) : Int) := by omega
      have hcap : ((m' + 1 : Nat) : Int) ≤ (cap : Int) := by have := hq.fits; rw [← hm] at this; omega
      have HX := Aside0.mk hx
      clear hm hk hgn hbf hinv hnum hq hbl HD hx
      go_wp2_with fail
      refine (HNA.out x HX.out wo HD4.out).mono ?_
      rintro e w4 ⟨⟨A, c, rfl, hown⟩, hb4⟩
      have HRC := Aside0.mk (rowC_own hown)
      have HRB : Aside0 (∀ j, A = some ⟨j, 0, none⟩ → wo.heap.size ≤ j ∧ j < w4.heap.size) := ⟨fun j hj => hown.lt j (by rw [hj]; rfl)⟩
      have hcl : (nearTo nb x n).length ≤ c := by
        rcases hown.2 with ⟨e, e0⟩ | ⟨_, _, _, e, _, _, h5, _⟩
        · omega
        · injection e with e1 e2 e3; omega
      obtain ⟨L, hL⟩ : ∃ L, nearTo nb x n = L := ⟨_, rfl⟩
      have HLL : Aside0 (L.length = (nearL nb n x).length) := ⟨by rw [← hL]; unfold nearTo; rw [List.length_map]⟩
      have hll : L.length ≤ 9 := by have := nearTo_len nb x n; rw [hL] at this; omega
      have HLE := Aside0.mk hL
      rw [hL] at HRC hcl ⊢
      obtain ⟨l, hl⟩ : ∃ l, L.length = l := ⟨_, rfl⟩
      have HLQ := Aside0.mk hl
      rw [hl] at hcl hll ⊢
      have hcl2 : (l : Int) ≤ (c : Int) := by omega
      have HQ4 : Aside0 (NumsW w4 go n (dAt (metTo nb n x D q 0).1) ∧ QAt w4 w.heap.size (fun j => j = go ∨ A = some ⟨j, 0, none⟩) qg off cap (x :: (metTo nb n x D q 0).2) ∧ Below w.heap.size w w4) := ⟨HD2.out.keep (hb4.block _ HLT.out.2), (HD3.out.below hb4).avoid (by
        rintro (e | e)
        · exact HD3.out.free e
        · have := (HRB.out _ e).1; have := HLT.out.1; omega), HD4.out.trans (hb4.mono HD4.out.size)⟩
      clear hown hb4 hL hl HC0
      go_wp2_with fail
      go_loopw [6, 29] (fun v i wr => ∃ (k qg off cap mm : Nat), i = .int .i64 k ∧ k ≤ l ∧ v = .slice (some ⟨qg, off, none⟩) (mm + 1) cap ∧ mm + 1 ≤ cap ∧ mm ≤ 18 ∧ Aside0 (mm = (metTo nb n x D q k).2.length ∧ w4.heap.size ≤ wr.heap.size ∧ NumsW wr go n (dAt (metTo nb n x D q k).1) ∧ QAt wr w.heap.size (fun j => j = go ∨ A = some ⟨j, 0, none⟩) qg off cap (x :: (metTo nb n x D q k).2) ∧ Below w.heap.size w wr ∧ RowC wr A L)) (fun _ i _ => l - (intOf i).toNat)
      case atStart => exact ⟨0, qg, off, cap, m', rfl, Nat.zero_le _, rfl, by omega, by omega, ⟨HD5.out.1, Nat.le_refl _, HQ4.out.1, HQ4.out.2.1, HQ4.out.2.2, HRC.out⟩⟩
      case round =>
        obtain ⟨k, qg1, off1, cap1, mm, rfl, hk, rfl, hmc, hmm, HE⟩ := hrel
        obtain ⟨wi, rfl⟩ : ∃ wi : World, wi = wr := ⟨_, rfl⟩
        obtain ⟨F1, F2, F3⟩ := metTo_facts HD1.out k
        by_cases hlt : (k : Int) < (l : Int)
        · have hkl : k < L.length := by rw [HLQ.out]; omega
          obtain ⟨gr, hA, hcell⟩ := HE.out.2.2.2.2.2 k hkl
          subst hA
          obtain ⟨hkn, he⟩ := nearTo_get (nb := nb) (a := x) (n := n) (k := k) (by rw [HLE.out]; exact hkl)
          have hxe : L[k] = (((nearL nb n x)[k] : Nat) : Int) := by rw [← he]; simp only [HLE.out]
          have hyn := (nearL_mem.1 (List.getElem_mem hkn)).1
          have HMS := Aside0.mk (metTo_succ (D := D) (q := q) hkn)
          obtain ⟨y, hy⟩ : ∃ y, (nearL nb n x)[k] = y := ⟨_, rfl⟩
          rw [hy] at hxe hyn HMS
          rw [hxe] at hcell
          obtain ⟨e1, e2, e3, e4, e5, e6⟩ := HE.out
          obtain ⟨r1, r2⟩ := e3.at hyn
          obtain ⟨r3, r4⟩ := e3.at HX.out
          rw [F2] at r3
          have hqh := e4.head
          have k0 : (0 : Int) ≤ (k : Int) := by omega
          have y0 : (0 : Int) ≤ (y : Int) := by omega
          have yn : (y : Int) < (n : Int) := by omega
          have x0 : (0 : Int) ≤ (x : Int) := by omega
          have xn : (x : Int) < (n : Int) := by have := HX.out; omega
          have hd0 := (HD1.out.inq x List.mem_cons_self).2
          have hd9 := HD1.out.few x HX.out
          have HQQ := Aside0.mk e4
          have HNU := Aside0.mk e3
          have HBW := Aside0.mk e5
          have HRR := Aside0.mk e6
          have HSZ := Aside0.mk (And.intro e1 e2)
          have HF1 := Aside0.mk F1
          have hgq : qg1 ≠ go := fun e => e4.free (.inl e)
          have hgr : gr ≠ go := fun e => by have := (HRB.out gr rfl).1; have := HLT.out.2; omega
          obtain ⟨d, hd⟩ : ∃ d, dAt D x = d := ⟨_, rfl⟩
          rw [hd] at r3 hd0 hd9 HMS
          have hd10 : d ≤ 100 := by omega
          obtain ⟨z, hz⟩ : ∃ z, dAt (metTo nb n x D q k).1 y = z := ⟨_, rfl⟩
          rw [hz] at r1
          have HZ := Aside0.mk hz
          have HFM := Aside0.mk (And.intro F3 HD5.out)
          clear hkn he hxe hy e1 e2 e3 e4 e5 e6 F1 F2 F3 HE hd hz hd9
          by_cases hneg : z < 0
          · have HNW : Aside0 (NumsW (wi.setCell ⟨go, y, none⟩ (.int .i64 (d + 1))) go n (dAt (metTo nb n x D q (k + 1)).1) ∧ (metTo nb n x D q (k + 1)).2 = (metTo nb n x D q k).2 ++ [y]) := ⟨by
              have e : visit d (metTo nb n x D q k) y = ((metTo nb n x D q k).1.set y (d + 1), (metTo nb n x D q k).2 ++ [y]) := by unfold visit; rw [if_pos (by rw [HZ.out]; exact hneg)]
              rw [HMS.out, e]
              refine ⟨numsW_same (HNU.out.set hyn (d + 1)) fun u hu => ?_, rfl⟩
              rw [dAt_set _ _ _ _ (by rw [HF1.out]; exact hyn)]; rfl⟩
            have HQ2 : Aside0 (QAt (wi.setCell ⟨go, y, none⟩ (.int .i64 (d + 1))) w.heap.size (fun j => j = go ∨ some (⟨gr, 0, none⟩ : Addr) = some ⟨j, 0, none⟩) qg1 off1 cap1 (x :: (metTo nb n x D q k).2) ∧ Below w.heap.size w (wi.setCell ⟨go, y, none⟩ (.int .i64 (d + 1)))) := ⟨HQQ.out.keep (Below.heap_setCell _ _ _ _ hgq), Below.setCell (p := ⟨go, y, none⟩) HBW.out (by have := HGO.out; show w.heap.size ≤ go; omega) _⟩
            have hss : (wi.setCell ⟨go, y, none⟩ (.int .i64 (d + 1))).heap.size = wi.heap.size := World.size_setCell ..
            have HSS := Aside0.mk hss
            clear hss
            go_wp2_with (at_builtin; refine app_q (w0 := w) w.heap.size rfl (.tmp 48) (.tmp 50) rfl (fun j => j = go ∨ some (⟨gr, 0, none⟩ : Addr) = some ⟨j, 0, none⟩) qg1 off1 cap1 (mm + 1) (x :: (metTo nb n x D q k).2) y ?k1 rfl (by rw [HSS.out]; rfl) HQ2.out.1 HQ2.out.2 HQ2.out.2.size ?k2 ?k3 ?_; (case k1 => rw [List.length_cons, HSZ.out.1]); (case k2 => rintro j (rfl | e); exact Nat.lt_of_lt_of_le HNU.out.lt (Nat.le_of_eq HSS.out.symm); (injection e with e; injection e with e; subst e; have := (HRB.out _ rfl).2; have := HSZ.out.2; rw [HSS.out]; omega)); (case k3 => rw [List.length_cons]; have := HSZ.out.1; omega); intro g1 o1 c1 w1 hqa hba hsa hfa _; have HQA := Aside0.mk hqa; have HBA := Aside0.mk hba; have HSA := Aside0.mk hsa; have HFA := Aside0.mk hfa; clear hqa hba hsa hfa)
            have F4 := (metTo_facts HD1.out (k + 1)).2.2
            have hft := HQA.out.fits
            have hl1 : (metTo nb n x D q (k + 1)).2.length = mm + 1 := by rw [HNW.out.2, List.length_append, ← HSZ.out.1]; rfl
            have hmb : mm + 1 ≤ 18 := by rw [hl1] at F4; have := HFM.out.2.2.1; have := HFM.out.2.2.2.1; omega
            have hmc2 : mm + 1 + 1 ≤ c1 := by rw [List.length_append, List.length_cons, ← HSZ.out.1, List.length_singleton] at hft; omega
            clear F4 hft
            have HL1 := Aside0.mk hl1
            clear hl1
            go_roundw
            case rel => exact ⟨k + 1, g1, o1, c1, mm + 1, by go_num, by omega, rfl, hmc2, hmb, ⟨HL1.out.symm, by have := HSZ.out.2; have := HSA.out; rw [HSS.out] at this; omega, HNW.out.1.keep (HFA.out go (.inl rfl)), by rw [HNW.out.2]; exact HQA.out, HBA.out, HRR.out.keep fun j hj => (HFA.out j (.inr hj)).trans (Below.heap_setCell _ _ _ _ (by injection hj with hj; injection hj with hj; subst hj; exact hgr))⟩⟩
            case measure => simp [intOf]; omega
          · have HNW : Aside0 (metTo nb n x D q (k + 1) = metTo nb n x D q k) := ⟨by
              rw [HMS.out]
              unfold visit
              rw [if_neg (by rw [HZ.out]; exact hneg)]⟩
            go_wp2_with fail
            go_roundw
            case rel => exact ⟨k + 1, qg1, off1, cap1, mm, by go_num, by omega, rfl, hmc, hmm, ⟨by rw [HNW.out]; exact HSZ.out.1, HSZ.out.2, by rw [HNW.out]; exact HNU.out, by rw [HNW.out]; exact HQQ.out, HBW.out, HRR.out⟩⟩
            case measure => simp [intOf]; omega
        · have hkl : k = l := by omega
          obtain ⟨e1, e2, e3, e4, e5, e6⟩ := HE.out
          rw [hkl] at e1 e3 e4 F3
          rw [← HLQ.out, HLL.out] at e1 e3 e4 F3
          obtain ⟨i1, i2⟩ := HD1.out.round ha
          rw [← metTo_all nb n x D q (Nat.le_refl _)] at i1 i2
          obtain ⟨M, hM⟩ : ∃ M, metTo nb n x D q (nearL nb n x).length = M := ⟨_, rfl⟩
          rw [hM] at e1 e3 e4 i1 i2 HD5 F3
          obtain ⟨D2, q2⟩ := M
          dsimp only at e1 e3 e4 i1 i2 HD5 F3
          have HN2 := Aside0.mk e3
          have HB2' := Aside0.mk e5
          have HI2 := Aside0.mk i1
          have HM2 : Aside0 (negN D2 + q2.length ≤ gg') := ⟨by rw [List.length_cons] at i2; have := HD5.out.2.1; omega⟩
          have HQ2 := Aside0.mk e4
          have HE1 := Aside0.mk e1
          have hmm9 : mm ≤ 9 := by have := HM2.out; have := HD5.out.2.2.1; omega
          clear e1 e2 e3 e4 e5 e6 i1 i2 hM F1 F2 F3 HE hkl
          obtain ⟨cap2, rfl⟩ : ∃ c, cap1 = c + 1 := ⟨cap1 - 1, by omega⟩
          by_cases hz : cap2 = 0
          · subst hz
            obtain rfl : mm = 0 := by omega
            have hq2 : q2 = [] := List.eq_nil_of_length_eq_zero HE1.out.symm
            have HQ3 : Aside0 (QAt wi w.heap.size (fun j => j = go) qg1 off1 0 q2) := ⟨by
              have h := HQ2.out
              rw [hq2] at h ⊢
              exact h.tail1.avoid fun e => h.free (.inl e)⟩
            clear hq2
            go_wp2_with fail
            go_roundg gg'
            case rel => exact ⟨gg', qg1, off1, 0, 0, Nat.le_refl _, rfl, by omega, ⟨D2, q2, HE1.out, HM2.out, by have := HD5.out.2.2.1; omega, HD5.out.2.2.2, HI2.out, HN2.out, HQ3.out, HB2'.out⟩⟩
            case measure => omega
          · have HQ3 : Aside0 (QAt wi w.heap.size (fun j => j = go) qg1 (off1 + 1) cap2 q2) := ⟨HQ2.out.tail.avoid fun e => HQ2.out.free (.inl e)⟩
            go_wp2_with fail
            go_roundg gg'
            case rel => exact ⟨gg', qg1, off1 + 1, cap2, mm, Nat.le_refl _, by first | rfl | go_num, hmm9, ⟨D2, q2, HE1.out, HM2.out, by have := HD5.out.2.2.1; omega, HD5.out.2.2.2, HI2.out, HN2.out, HQ3.out, HB2'.out⟩⟩
            case measure => omega
end Go.Proofs.Ytbpppchkgjcahaa
