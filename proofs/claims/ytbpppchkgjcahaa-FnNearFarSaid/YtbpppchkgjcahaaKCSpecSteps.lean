/- The reference's l4Steps, by hand: fewest steps from a room to each one. -/
import Derived.Test.YtbpppchkgjcahaaKCNearWM
import Derived.Deep.RegionHeld3
namespace Go.Proofs.Ytbpppchkgjcahaa
open Go.RowKit Go.Shelf Go.Proofs.YtbpppchkgjcahaaW.PrintWords Go.Proofs.YtbpppchkgjcahaaW.PrintMore
set_option linter.unusedVariables false
set_option linter.unusedSimpArgs false
def NumsC (W : World) (g n : Nat) (o : Nat → Int) : Prop := ∃ cs : Array Value, W.heap[g]? = some (.cells cs 3 (0, 0)) ∧ n ≤ cs.size ∧ ∀ j, j < n → cs[j]? = some (.int .i64 (o j))
theorem NumsC.lt {W : World} {g n : Nat} {o : Nat → Int} (h : NumsC W g n o) : g < W.heap.size := by
  obtain ⟨cs, h1, _⟩ := h
  exact (Array.getElem?_eq_some_iff.1 h1).1
theorem NumsC.at {W : World} {g n : Nat} {o : Nat → Int} (h : NumsC W g n o) {b : Nat} (hb : b < n) : W.cell? ⟨g, b, none⟩ = some (.int .i64 (o b)) ∧ W.frozen? ⟨g, b, none⟩ = false := by
  obtain ⟨cs, h1, h2, h3⟩ := h
  exact ⟨by rw [Lib.cell_of_heap h1]; exact h3 b hb, Lib.frozen_of_heap h1 b⟩
theorem NumsC.keep {W W' : World} {g n : Nat} {o : Nat → Int} (h : NumsC W g n o) (hk : W'.heap[g]? = W.heap[g]?) : NumsC W' g n o := by
  obtain ⟨cs, h1, h2⟩ := h
  exact ⟨cs, by rw [hk]; exact h1, h2⟩
theorem NumsC.set {W : World} {g n : Nat} {o : Nat → Int} (h : NumsC W g n o) {b : Nat} (hb : b < n) (v : Int) : NumsC (W.setCell ⟨g, b, none⟩ (.int .i64 v)) g n (fun x => if x = b then v else o x) := by
  obtain ⟨cs, h1, h2, h3⟩ := h
  refine ⟨_, blk_set h1 b (.int .i64 v), by rw [Array.size_setIfInBounds]; exact h2, fun j hj => ?_⟩
  rw [Array.getElem?_setIfInBounds]
  show _ = some (Value.int .i64 (if j = b then v else o j))
  by_cases e : j = b
  · subst e; rw [if_pos rfl, if_pos (by omega), if_pos rfl]
  · rw [if_neg (fun hh => e hh.symm), if_neg e]; exact h3 j hj
theorem NumsC.same {W : World} {g n : Nat} {o o' : Nat → Int} (h : NumsC W g n o) (e : ∀ x, x < n → o x = o' x) : NumsC W g n o' := by
  obtain ⟨cs, h1, h2, h3⟩ := h
  exact ⟨cs, h1, h2, fun j hj => by rw [← e j hj]; exact h3 j hj⟩
theorem numsC_own {W : World} {base : Nat} {v : Value} {xs : List Int} (h : W.ownsRow base 3 1 v xs.length (nums .i64 xs)) (h0 : 0 < xs.length) : ∃ g c, v = .slice (some ⟨g, 0, none⟩) xs.length c ∧ xs.length ≤ c ∧ base ≤ g ∧ NumsC W g xs.length (fun j => xs.getD j 0) := by
  rcases h.2 with ⟨_, e⟩ | ⟨g, c, cur, e, hg, hh, hc, hm, hs, ht⟩
  · omega
  · refine ⟨g, c, e, hc, hg, cur, hh, by omega, fun j hj => ?_⟩
    rw [Array.getElem?_toList.symm]
    have h2 : (cur.toList.take (xs.length * 1))[j]? = cur.toList[j]? := List.getElem?_take_of_lt (by omega)
    rw [← h2, ht]
    unfold nums
    rw [List.getElem?_map, List.getElem?_eq_getElem hj]
    show some (Value.int .i64 xs[j]) = some (Value.int .i64 (xs.getD j 0))
    rw [List.getD_eq_getElem?_getD, List.getElem?_eq_getElem hj]
    rfl
theorem rowC_R {W : World} {base : Nat} {ok : Nat → Prop} {v : Value} {xs : List Int} (h : Kd.R (Kd.int .i64) 3 W base ok v xs) : ∃ A c, v = .slice A xs.length c ∧ xs.length ≤ c ∧ RowC W A xs ∧ ∀ j, A = some ⟨j, 0, none⟩ → base ≤ j ∧ j < W.heap.size := by
  obtain ⟨A, c, e, hl, hC⟩ := Kd.R_reads h
  have hb := (Kd.R_bound h).1
  subst e
  obtain ⟨inner, ho⟩ := Kd.R_own h
  refine ⟨A, c, rfl, hl, fun k hk => ?_, fun j hj => ?_⟩
  · obtain ⟨ad, e, hc⟩ := Kd.at_int hC (k : Int) (by omega) (by omega)
    rcases ho.2 with ⟨e1, _⟩ | ⟨g, c', cur, e1, _⟩
    · injection e1 with e1; rw [e1] at e; cases e
    · injection e1 with e1
      rw [e1] at e
      injection e with e
      refine ⟨g, e1, ?_⟩
      subst e
      rw [Int.toNat_natCast] at hc
      unfold rd at hc
      rw [Int.toNat_natCast, List.getD_eq_getElem?_getD, List.getElem?_eq_getElem hk] at hc
      by_cases k0 : k = 0
      · subst k0; simpa [Addr.add] using hc
      · simpa [Addr.add, k0] using hc
  · obtain ⟨_, h1, h2, _⟩ := hb j (by rw [hj]; rfl)
    exact ⟨h1, h2⟩
set_option maxRecDepth 100000 in
set_option maxHeartbeats 16000000 in
theorem l4Steps_any (A : Option Addr) (cap : Nat) (p : List ByteArray) (hpl : planG p = true) (a : Nat) (ha : a < roomN p) (w : World) (hr0 : Kd.C Kd.string w A p.length p) (hc0 : p.length ≤ cap) :
    Calls Try.prog 77 #[.slice A p.length cap, .int .i64 (a : Int)] w fun e w' => ∃ g c, e = .returned (.slice (some ⟨g, 0, none⟩) (roomN p) c) ∧ roomN p ≤ c ∧ NumsC w' g (roomN p) (dAt (stepsL (nbP p) (roomN p) a)) ∧ Below w.heap.size w w' := by
  have hn := roomN_pos hpl
  have HRO : Aside0 (∀ W, Below w.heap.size w W → Calls Try.prog 65 #[.slice A p.length cap] W fun e w' => e = .returned (.int .i64 (roomN p : Int)) ∧ Below W.heap.size W w') := ⟨fun W hW => spec_l1Rooms.calls A cap p (roomN p : Int) W (Kd.C_below hr0 hW) hc0 (rooms_some hpl)⟩
  have HOF : Aside0 (∀ (x : Nat) W, Below w.heap.size w W → Calls Try.prog 131 #[.slice A p.length cap, .int .i64 (x : Int)] W fun e w' => ∃ v : Value, e = .returned v ∧ Kd.R (Kd.int .i64) 3 w' W.heap.size (fun _ => True) v (nearTo (nbP p) x (roomN p)) ∧ Below W.heap.size W w') := ⟨fun x W hW => by
    obtain ⟨k, hk⟩ := (of_f hpl x).ex
    exact L12.spec_l4Of.calls k A cap p (x : Int) _ W (Kd.C_below hr0 hW) hc0 hk⟩
  obtain ⟨n, hnn⟩ : ∃ n, roomN p = n := ⟨_, rfl⟩
  obtain ⟨nb, hnb⟩ : ∃ nb, nbP p = nb := ⟨_, rfl⟩
  rw [hnn] at hn HRO HOF ha ⊢
  rw [hnb] at HOF ⊢
  have a0 : (0 : Int) ≤ (a : Int) := by omega
  have an : (a : Int) < (n : Int) := by omega
  clear hr0 hpl hnn hnb
  have HO0 := Aside0.mk (World.ownsRow_made (base := w.heap.size) (e := 3) (size := 1) w #[] 0 (Nat.le_refl _) (by unfold maxLen; omega) rfl)
  have HBA : Aside0 (Below w.heap.size w (w.alloc (.cells #[] 3))) := ⟨(Below.refl _ _).alloc (Nat.le_refl _) _⟩
  go_enter Try.func77, Try.ntmps77
  go_wp2_with fail
  go_loopw [5, 6] (fun v i wr => ∃ k : Nat, i = .int .i64 k ∧ k ≤ n ∧ Aside0 (wr.ownsRow w.heap.size 3 1 v (List.replicate k (-1 : Int)).length (nums .i64 (List.replicate k (-1 : Int))) ∧ Below w.heap.size w wr)) (fun _ i _ => n - (intOf i).toNat)
  case atStart => exact ⟨0, rfl, Nat.zero_le _, ⟨HO0.out, HBA.out⟩⟩
  case round =>
    obtain ⟨k, rfl, hk, HD⟩ := hrel
    go_wp2_with fail
    refine (HRO.out _ HD.out.2).mono ?_
    rintro e w1 ⟨rfl, hb1⟩
    have HD1 : Aside0 (w1.ownsRow w.heap.size 3 1 _ (List.replicate k (-1 : Int)).length (nums .i64 (List.replicate k (-1 : Int))) ∧ Below w.heap.size w w1) := ⟨pw_own_below HD.out.1 hb1, HD.out.2.trans (hb1.mono HD.out.2.size)⟩
    clear hb1 HD
    by_cases hlt : (k : Int) < (n : Int)
    · go_wp2_with (at_builtin; refine print_append_num (w0 := w) w.heap.size rfl (.tmp 18) (.tmp 19) 34 3 .i64 8 rfl Try.underlying34 (by kernel_rfl) (by omega) _ (List.replicate k (-1 : Int)) (-1 : Int) rfl rfl ?k1 HD1.out.2 HD1.out.2.size ?k2 ?_; (case k1 => exact HD1.out.1); (case k2 => rw [List.length_replicate]; omega); intro v1 w2 ho hB hg hat; have HT1 := Aside0.mk ho; have HB1 := Aside0.mk hB; clear ho hB hg hat)
      go_roundw
      case rel => exact ⟨k + 1, by go_num, by omega, ⟨by rw [List.replicate_succ']; exact HT1.out, HB1.out⟩⟩
      case measure => simp [intOf]; omega
    · have hkn : k = n := by omega
      have hrep : (List.replicate k (-1 : Int)).length = n := by rw [List.length_replicate, hkn]
      obtain ⟨go, oc, hv, hoc, hgo, hN⟩ := numsC_own HD1.out.1 (by rw [hrep]; omega)
      rw [hrep] at hv hoc hN
      subst hv
      obtain ⟨s1, s2⟩ := hN.at ha
      have hst : NumsC (w1.setCell ⟨go, a, none⟩ (.int .i64 0)) go n (dAt (startL n a)) := (hN.set ha 0).same fun x hx => by
        rw [dAt_start ha hx]
        split
        · rfl
        · rw [List.getD_eq_getElem?_getD, List.getElem?_replicate, if_pos (by omega)]; rfl
      have hs1 : w1.cell? ⟨go, a, none⟩ = some (.int .i64 (-1)) := by
        rw [s1, List.getD_eq_getElem?_getD, List.getElem?_replicate, if_pos (by omega)]; rfl
      have HST := Aside0.mk hst
      have HGO := Aside0.mk hgo
      have HOC := Aside0.mk hoc
      have hoc2 : (n : Int) ≤ (oc : Int) := by omega
      have HL0 : Aside0 (go < w1.heap.size) := ⟨hN.lt⟩
      have HBS : Aside0 (Below w.heap.size w (w1.setCell ⟨go, a, none⟩ (.int .i64 0))) := ⟨Below.setCell (p := ⟨go, a, none⟩) HD1.out.2 HGO.out _⟩
      clear s1 hst hN hkn hgo hrep HD1
      go_wp2_with fail
      have hqs : (w1.setCell ⟨go, a, none⟩ (.int .i64 0)).heap.size = w1.heap.size := World.size_setCell ..
      have HQ0 : Aside0 (QAt ((w1.setCell ⟨go, a, none⟩ (.int .i64 0)).alloc (.cells #[.int .i64 (a : Int)] 3)) w.heap.size (fun j => j = go) w1.heap.size 0 1 ([] ++ [a])) := ⟨by
        have h := QAt.one (W := w1.setCell ⟨go, a, none⟩ (.int .i64 0)) (base := w.heap.size) (av := fun j => j = go) a HBS.out.size (by rw [hqs]; have := HL0.out; omega)
        rw [hqs] at h
        exact h⟩
      have HS1 : Aside0 (NumsC ((w1.setCell ⟨go, a, none⟩ (.int .i64 0)).alloc (.cells #[.int .i64 (a : Int)] 3)) go n (dAt (startL n a)) ∧ Below w.heap.size w ((w1.setCell ⟨go, a, none⟩ (.int .i64 0)).alloc (.cells #[.int .i64 (a : Int)] 3))) := ⟨HST.out.keep (Below.heap_alloc _ _ _ (by rw [hqs]; exact HL0.out)), HBS.out.alloc HBS.out.size _⟩
      have HF0 : Aside0 (([] : List Nat).length + [a].length + negN (startL n a) = n) := ⟨by have := start_neg ha; simp; omega⟩
      have hbq : decide (k < n) = false := decide_eq_false (by omega)
      simp only [hbq]
      clear hqs s2 hs1 hlt hbq
      go_loopg [7, 8] n (fun gg v i8 wr => ∃ (f i qg cap m : Nat), f ≤ gg ∧ v = .slice (some ⟨qg, 0, none⟩) m cap ∧ i8 = .int .i64 (i : Int) ∧ i ≤ m ∧ m ≤ 9 ∧ m ≤ cap ∧ Aside0 (∃ D done q, i = done.length ∧ m = (done ++ q).length ∧ done.length + q.length + negN D = n ∧ q.length + negN D ≤ f ∧ f ≤ n ∧ bfs nb n f D q = stepsL nb n a ∧ BInv nb n a D q ∧ NumsC wr go n (dAt D) ∧ QAt wr w.heap.size (fun j => j = go) qg 0 cap (done ++ q) ∧ Below w.heap.size w wr))
      case atStart => exact ⟨n, 0, w1.heap.size, 1, 1, Nat.le_refl _, rfl, rfl, by omega, by omega, by omega, ⟨startL n a, [], [a], rfl, rfl, HF0.out, by have := HF0.out; simp at this ⊢; omega, Nat.le_refl _, rfl, start_inv ha, HS1.out.1, HQ0.out, HS1.out.2⟩⟩
      case round =>
        obtain ⟨f, i, qg, cap2, m, hfg, rfl, rfl, him, hm9, hmc, HD⟩ := hrel
        obtain ⟨wo, rfl⟩ : ∃ wo : World, wo = wr := ⟨_, rfl⟩
        obtain ⟨D, done, q, hi, hm, htot, hk, hgn, hbf, hinv, hnum, hq, hbl⟩ := HD.out
        rw [List.length_append] at hm
        cases q with
        | nil =>
          have him2 : i = m := by rw [hm, hi]; simp
          have HR : Aside0 (NumsC wo go n (dAt (stepsL nb n a))) := ⟨by rw [← hbf, bfs_nil]; exact hnum⟩
          have HBL := Aside0.mk hbl
          have hno : ¬ (i : Int) < (m : Int) := by omega
          clear hi hm htot hk hgn hbf hinv hnum hq hbl HD him2
          go_wp2_with fail
          go_ret
          exact ⟨go, oc, rfl, HOC.out, HR.out, HBL.out⟩
        | cons x q =>
          have him2 : i < m := by rw [hm, hi, List.length_cons]; omega
          obtain ⟨gg', rfl⟩ : ∃ g', f = g' + 1 := ⟨f - 1, by rw [List.length_cons] at hk; omega⟩
          have hx := (hinv.inq x List.mem_cons_self).1
          have hc0x := hq.cell (j := i) (by rw [List.length_append, ← hm]; exact him2)
          rw [Nat.zero_add] at hc0x
          have hxi : (done ++ x :: q)[i]'(by rw [List.length_append, ← hm]; exact him2) = x := by
            rw [List.getElem_append_right (by omega)]
            simp [hi]
          rw [hxi] at hc0x
          have HDN := Aside0.mk hi
          have HD1 := Aside0.mk hinv
          have HD2 := Aside0.mk hnum
          have HD3 := Aside0.mk hq
          have HD4 := Aside0.mk hbl
          have HD5 : Aside0 (m = done.length + (q.length + 1) ∧ q.length + negN D ≤ gg' ∧ gg' + 1 ≤ n ∧ bfs nb n gg' (metTo nb n x D q (nearL nb n x).length).1 (metTo nb n x D q (nearL nb n x).length).2 = stepsL nb n a ∧ done.length + (q.length + 1) + negN D = n) := ⟨by rw [hm]; rfl, by rw [List.length_cons] at hk; omega, hgn, by rw [metTo_all nb n x D q (Nat.le_refl _)]; exact hbf, htot⟩
          have HLT : Aside0 (qg < wo.heap.size ∧ go < wo.heap.size) := ⟨hq.lt, hnum.lt⟩
          have i0 : (0 : Int) ≤ (i : Int) := by omega
          have hyes : (i : Int) < (m : Int) := by omega
          have hcap : (m : Int) ≤ (cap2 : Int) := by omega
          have HX := Aside0.mk hx
          clear hi hm hk hgn hbf hinv hnum hq hbl HD hx hxi htot
          go_wp2_with fail
          refine (HOF.out x wo HD4.out).mono ?_
          rintro e w4 ⟨v4, rfl, hR, hb4⟩
          obtain ⟨A4, c4, rfl, hcl, hRC, hRB⟩ := rowC_R hR
          have HRC := Aside0.mk hRC
          have HRB := Aside0.mk hRB
          obtain ⟨L, hL⟩ : ∃ L, nearTo nb x n = L := ⟨_, rfl⟩
          have HLL : Aside0 (L.length = (nearL nb n x).length) := ⟨by rw [← hL]; unfold nearTo; rw [List.length_map]⟩
          have hll : L.length ≤ 9 := by have := nearTo_len nb x n; rw [hL] at this; omega
          have HLE := Aside0.mk hL
          rw [hL] at HRC hcl ⊢
          obtain ⟨l, hl⟩ : ∃ l, L.length = l := ⟨_, rfl⟩
          have HLQ := Aside0.mk hl
          rw [hl] at hcl hll ⊢
          have hcl2 : (l : Int) ≤ (c4 : Int) := by omega
          have HQ4 : Aside0 (NumsC w4 go n (dAt (metTo nb n x D q 0).1) ∧ QAt w4 w.heap.size (fun j => j = go ∨ A4 = some ⟨j, 0, none⟩) qg 0 cap2 (done ++ x :: (metTo nb n x D q 0).2) ∧ Below w.heap.size w w4) := ⟨HD2.out.keep (hb4.block _ HLT.out.2), (HD3.out.below hb4).avoid (by
            rintro (e | e)
            · exact HD3.out.free e
            · have := (HRB.out _ e).1; have := HLT.out.1; omega), HD4.out.trans (hb4.mono HD4.out.size)⟩
          have hm18 : m ≤ 18 := by omega
          clear hR hRC hRB hb4 hL hl hc0x hyes hcap hm9
          go_wp2_with fail
          go_loopw [7, 10] (fun v i wr => ∃ (k qg cap mm : Nat), i = .int .i64 k ∧ k ≤ l ∧ v = .slice (some ⟨qg, 0, none⟩) mm cap ∧ mm ≤ cap ∧ mm ≤ 18 ∧ Aside0 (mm = done.length + 1 + (metTo nb n x D q k).2.length ∧ w4.heap.size ≤ wr.heap.size ∧ NumsC wr go n (dAt (metTo nb n x D q k).1) ∧ QAt wr w.heap.size (fun j => j = go ∨ A4 = some ⟨j, 0, none⟩) qg 0 cap (done ++ x :: (metTo nb n x D q k).2) ∧ Below w.heap.size w wr ∧ RowC wr A4 L)) (fun _ i _ => l - (intOf i).toNat)
          case atStart => exact ⟨0, qg, cap2, m, rfl, Nat.zero_le _, rfl, hmc, hm18, ⟨by have h := HD5.out.1; have e : (metTo nb n x D q 0).2 = q := rfl; rw [e]; omega, Nat.le_refl _, HQ4.out.1, HQ4.out.2.1, HQ4.out.2.2, HRC.out⟩⟩
          case round =>
            obtain ⟨k, qg1, cap1, mm, rfl, hk, rfl, hmc1, hmm, HE⟩ := hrel
            obtain ⟨wi, rfl⟩ : ∃ wi : World, wi = wr := ⟨_, rfl⟩
            obtain ⟨F1, F2, F3⟩ := metTo_facts HD1.out k
            by_cases hlt2 : (k : Int) < (l : Int)
            · have hkl : k < L.length := by rw [HLQ.out]; omega
              obtain ⟨gr, hA, hcell⟩ := HE.out.2.2.2.2.2 k hkl
              subst hA
              obtain ⟨hkn, he⟩ := nearTo_get (nb := nb) (a := x) (n := n) (k := k) (by rw [HLE.out]; exact hkl)
              have hxe : L[k] = (((nearL nb n x)[k] : Nat) : Int) := by rw [← he]; simp only [HLE.out]
              have hyn := (nearL_mem.1 (List.getElem_mem hkn)).1
              have HMS := Aside0.mk (metTo_succ (D := D) (q := q) hkn)
              obtain ⟨y, hy⟩ : ∃ y, (nearL nb n x)[k] = y := ⟨_, rfl⟩
              rw [hy] at hxe hyn HMS
              rw [hxe] at hcell
              obtain ⟨e1, e2, e3, e4, e5, e6⟩ := HE.out
              obtain ⟨r1, r2⟩ := e3.at hyn
              obtain ⟨r3, r4⟩ := e3.at HX.out
              rw [F2] at r3
              have hqh := e4.cell (j := i) (by rw [List.length_append, List.length_cons, HDN.out]; omega)
              have hqx : (done ++ x :: (metTo nb n x D q k).2)[i]'(by rw [List.length_append, List.length_cons, HDN.out]; omega) = x := by
                rw [List.getElem_append_right (by rw [HDN.out]; exact Nat.le_refl _)]
                simp [HDN.out]
              rw [hqx, Nat.zero_add] at hqh
              have him3 : (i : Int) < (mm : Int) := by have := HDN.out; omega
              have hmc3 : (mm : Int) ≤ (cap1 : Int) := by omega
              have k0 : (0 : Int) ≤ (k : Int) := by omega
              have y0 : (0 : Int) ≤ (y : Int) := by omega
              have yn : (y : Int) < (n : Int) := by omega
              have x0 : (0 : Int) ≤ (x : Int) := by omega
              have xn : (x : Int) < (n : Int) := by have := HX.out; omega
              have hd0 := (HD1.out.inq x List.mem_cons_self).2
              have hd9 := HD1.out.few x HX.out
              have HQQ := Aside0.mk e4
              have HNU := Aside0.mk e3
              have HBW := Aside0.mk e5
              have HRR := Aside0.mk e6
              have HSZ := Aside0.mk (And.intro e1 e2)
              have HF1 := Aside0.mk F1
              have hgq : qg1 ≠ go := fun e => e4.free (.inl e)
              have hgr : gr ≠ go := fun e => by have := (HRB.out gr rfl).1; have := HLT.out.2; omega
              obtain ⟨d, hd⟩ : ∃ d, dAt D x = d := ⟨_, rfl⟩
              rw [hd] at r3 hd0 hd9 HMS
              have hd10 : d ≤ 100 := by omega
              obtain ⟨z, hz⟩ : ∃ z, dAt (metTo nb n x D q k).1 y = z := ⟨_, rfl⟩
              rw [hz] at r1
              have HZ := Aside0.mk hz
              have hzx : x = y → z = d := fun e => by rw [← hz, ← hd, ← F2, e]
              clear hkn he hy e1 e2 e3 e4 e5 e6 F1 F2 F3 HE hd hz hd9 hqx
              by_cases hneg : z < 0
              · have HNW : Aside0 (NumsC (wi.setCell ⟨go, y, none⟩ (.int .i64 (d + 1))).drew go n (dAt (metTo nb n x D q (k + 1)).1) ∧ (metTo nb n x D q (k + 1)).2 = (metTo nb n x D q k).2 ++ [y]) := ⟨by
                  have e : visit d (metTo nb n x D q k) y = ((metTo nb n x D q k).1.set y (d + 1), (metTo nb n x D q k).2 ++ [y]) := by unfold visit; rw [if_pos (by rw [HZ.out]; exact hneg)]
                  rw [HMS.out, e]
                  refine ⟨(show NumsC (wi.setCell ⟨go, y, none⟩ (.int .i64 (d + 1))).drew go n _ from HNU.out.set hyn (d + 1)).same fun u hu => ?_, rfl⟩
                  rw [dAt_set _ _ _ _ (by rw [HF1.out]; exact hyn)]⟩
                have HQ2 : Aside0 (QAt (wi.setCell ⟨go, y, none⟩ (.int .i64 (d + 1))).drew w.heap.size (fun j => j = go ∨ some (⟨gr, 0, none⟩ : Addr) = some ⟨j, 0, none⟩) qg1 0 cap1 (done ++ x :: (metTo nb n x D q k).2) ∧ Below w.heap.size w (wi.setCell ⟨go, y, none⟩ (.int .i64 (d + 1))).drew) := ⟨HQQ.out.keep (Below.heap_setCell _ _ _ _ hgq), pw_below_drewN (Below.setCell (p := ⟨go, y, none⟩) HBW.out HGO.out _) 1⟩
                have hss : (wi.setCell ⟨go, y, none⟩ (.int .i64 (d + 1))).drew.heap.size = wi.heap.size := World.size_setCell ..
                have HSS := Aside0.mk hss
                clear hss
                go_wp2_with fail
                have hxy : ¬ x = y := fun e => by have := hzx e; omega
                go_region_held3 (fun w' => w'.cell? ⟨gr, k, none⟩ = some (.int .i64 (y : Int)) ∧ w'.cell? ⟨qg1, i, none⟩ = some (.int .i64 (x : Int)) ∧ w'.cell? ⟨go, x, none⟩ = some (.int .i64 d)) (first
                  | exact ⟨hcell, hqh, r3⟩
                  | (go_simp)) ((fail))
                have hwd : IntKind.i64.wrap (d + 1) = d + 1 := by rw [IntKind.wrap_i64]; omega
                simp only [hwd]
                clear hwd hcell hqh r1 r2 r3 r4
                obtain ⟨W5, hW5⟩ : ∃ W5, (wi.setCell ⟨go, y, none⟩ (.int .i64 (d + 1))).drew = W5 := ⟨_, rfl⟩
                have HK5 : Aside0 (∀ j, j ≠ go → W5.heap[j]? = wi.heap[j]?) := ⟨fun j hj => by rw [← hW5]; exact Below.heap_setCell _ _ _ _ hj⟩
                have hcell5 : W5.cell? ⟨gr, k, none⟩ = some (.int .i64 (y : Int)) := by
                  obtain ⟨g9, e9, h9⟩ := HRR.out k hkl
                  injection e9 with e9
                  injection e9 with e9
                  subst e9
                  rw [World.cell?_of_block (HK5.out _ hgr)]
                  rw [hxe] at h9
                  exact h9
                rw [hW5] at HNW HQ2 HSS ⊢
                clear hW5
                go_wp2_with (at_builtin; refine app_q (w0 := w) w.heap.size rfl (.tmp 66) (.tmp 71) rfl (fun j => j = go ∨ some (⟨gr, 0, none⟩ : Addr) = some ⟨j, 0, none⟩) qg1 0 cap1 mm (done ++ x :: (metTo nb n x D q k).2) y ?k1 rfl rfl HQ2.out.1 HQ2.out.2 HQ2.out.2.size ?k2 ?k3 ?_; (case k1 => rw [List.length_append, List.length_cons]; have := HSZ.out.1; omega); (case k2 => rintro j (rfl | e); exact HNW.out.1.lt; (injection e with e; injection e with e; subst e; have := (HRB.out _ rfl).2; have := HSZ.out.2; rw [HSS.out]; omega)); (case k3 => rw [List.length_append, List.length_cons]; have := HSZ.out.1; omega); intro g1 o1 c1 w1 hqa hba hsa hfa hoff; obtain rfl : o1 = 0 := (by omega); have HQA := Aside0.mk hqa; have HBA2 := Aside0.mk hba; have HSA := Aside0.mk hsa; have HFA := Aside0.mk hfa; clear hqa hba hsa hfa)
                have F4 := (metTo_facts HD1.out (k + 1)).2.2
                have hft := HQA.out.fits
                have hl1 : (metTo nb n x D q (k + 1)).2.length = (metTo nb n x D q k).2.length + 1 := by rw [HNW.out.2, List.length_append]; rfl
                have hmb : mm + 1 ≤ 18 := by rw [hl1] at F4; have h1 := HSZ.out.1; have h2 := HD5.out.2.2.2.2; omega
                have hmc2 : mm + 1 ≤ c1 := by rw [List.length_append, List.length_append, List.length_cons, List.length_singleton] at hft; have h1 := HSZ.out.1; omega
                have HL1 := Aside0.mk hl1
                clear F4 hft hl1
                go_roundw
                case rel => exact ⟨k + 1, g1, c1, mm + 1, by go_num, by omega, rfl, hmc2, hmb, ⟨by rw [HL1.out]; have := HSZ.out.1; omega, by have h1 := HSZ.out.2; have h2 := HSA.out; rw [HSS.out] at h2; omega, HNW.out.1.keep (HFA.out go (.inl rfl)), by rw [HNW.out.2, ← List.cons_append, ← List.append_assoc]; exact HQA.out, HBA2.out, HRR.out.keep fun j hj => (HFA.out j (.inr hj)).trans (HK5.out j (by injection hj with hj; injection hj with hj; subst hj; exact hgr))⟩⟩
                case measure => simp [intOf]; omega
              · have HNW : Aside0 (metTo nb n x D q (k + 1) = metTo nb n x D q k) := ⟨by
                  rw [HMS.out]
                  unfold visit
                  rw [if_neg (by rw [HZ.out]; exact hneg)]⟩
                clear hxe
                go_wp2_with fail
                go_roundw
                case rel => exact ⟨k + 1, qg1, cap1, mm, by go_num, by omega, rfl, hmc1, hmm, ⟨by rw [HNW.out]; exact HSZ.out.1, HSZ.out.2, by rw [HNW.out]; exact HNU.out, by rw [HNW.out]; exact HQQ.out, HBW.out, HRR.out⟩⟩
                case measure => simp [intOf]; omega
            · have hkl : k = l := by omega
              obtain ⟨e1, e2, e3, e4, e5, e6⟩ := HE.out
              rw [hkl] at e1 e3 e4 F3
              rw [← HLQ.out, HLL.out] at e1 e3 e4 F3
              obtain ⟨i1, i2⟩ := HD1.out.round ha
              rw [← metTo_all nb n x D q (Nat.le_refl _)] at i1 i2
              obtain ⟨M, hM⟩ : ∃ M, metTo nb n x D q (nearL nb n x).length = M := ⟨_, rfl⟩
              rw [hM] at e1 e3 e4 i1 i2 HD5 F3
              obtain ⟨D2, q2⟩ := M
              dsimp only at e1 e3 e4 i1 i2 HD5 F3
              rw [List.length_cons] at i2
              have HN2 := Aside0.mk e3
              have HB2' := Aside0.mk e5
              have HI2 := Aside0.mk i1
              have HM2 : Aside0 (q2.length + negN D2 ≤ gg' ∧ (done ++ [x]).length + q2.length + negN D2 = n ∧ mm = ((done ++ [x]) ++ q2).length) := ⟨by have := HD5.out.2.1; omega, by rw [List.length_append, List.length_singleton]; have := HD5.out.2.2.2.2; omega, by rw [List.length_append, List.length_append, List.length_singleton]; exact e1⟩
              have HQ3 : Aside0 (QAt wi w.heap.size (fun j => j = go) qg1 0 cap1 ((done ++ [x]) ++ q2)) := ⟨by
                rw [List.append_assoc]
                exact e4.avoid fun e => e4.free (.inl e)⟩
              have hmm9 : mm ≤ 9 := by have h1 := HM2.out.2.1; have h2 := HM2.out.2.2; rw [List.length_append] at h2; omega
              have him5 : i + 1 ≤ mm := by have h1 := HDN.out; omega
              have HDN2 : Aside0 (i + 1 = (done ++ [x]).length) := ⟨by rw [List.length_append, List.length_singleton, HDN.out]⟩
              clear e1 e2 e3 e4 e5 e6 i1 i2 hM F1 F2 F3 HE hkl
              go_wp2_with fail
              go_roundg gg'
              case rel => exact ⟨gg', i + 1, qg1, cap1, mm, Nat.le_refl _, rfl, by go_num, him5, hmm9, hmc1, ⟨D2, done ++ [x], q2, HDN2.out, HM2.out.2.2, HM2.out.2.1, HM2.out.1, by have := HD5.out.2.2.1; omega, HD5.out.2.2.2.1, HI2.out, HN2.out, HQ3.out, HB2'.out⟩⟩
              case measure => omega
end Go.Proofs.Ytbpppchkgjcahaa
