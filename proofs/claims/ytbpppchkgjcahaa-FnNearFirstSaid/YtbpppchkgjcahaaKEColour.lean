/- The program's coloured, NearFirst, NearColours: colours of neighbours. -/
import Derived.Test.YtbpppchkgjcahaaKESpecNearM
import Derived.Laws.EntriesVeiled
namespace Go.Proofs.Ytbpppchkgjcahaa
open Go.RowKit Go.Shelf Go.Proofs.YtbpppchkgjcahaaW.PrintWords Go.Proofs.YtbpppchkgjcahaaW.PrintMore
set_option linter.unusedVariables false
set_option linter.unusedSimpArgs false
def nextFn (bo bl bm bn : Nat) : Value := .func (.func 144) #[] #[.pointer (some ⟨bo, 0, none⟩), .pointer (some ⟨bl, 0, none⟩), .pointer (some ⟨bm, 0, none⟩), .pointer (some ⟨bn, 0, none⟩)]
structure ColI (w0 W : World) (base bo bl bm bn g n many : Nat) (av : Nat → Prop) (qg cap : Nat) (L : List Nat) : Prop where
  below : Below base w0 W
  out : W.cell? ⟨bo, 0, none⟩ = some (.slice (some ⟨qg, 0, none⟩) L.length cap)
  thaw : W.frozen? ⟨bo, 0, none⟩ = false
  tab : W.cell? ⟨bl, 0, none⟩ = some (.slice (some ⟨g, 0, none⟩) n n)
  cols : W.cell? ⟨bm, 0, none⟩ = some (.int .i64 (many : Int))
  next : W.cell? ⟨bn, 0, none⟩ = some (nextFn bo bl bm bn)
  row : QAt W base av qg 0 cap L
  avs : av bo ∧ av bl ∧ av bm ∧ av bn
  lt : ∀ j, av j → j < W.heap.size
  big : base ≤ W.heap.size
theorem ColI.keep {w0 W W' : World} {base bo bl bm bn g n many : Nat} {av : Nat → Prop} {qg cap : Nat} {L : List Nat} (h : ColI w0 W base bo bl bm bn g n many av qg cap L) (hb : Below W.heap.size W W') : ColI w0 W' base bo bl bm bn g n many av qg cap L :=
  ⟨h.below.trans (hb.mono h.big), (hb.cell (p := ⟨bo, 0, none⟩) (h.lt _ h.avs.1)).trans h.out, (World.frozen?_of_block (hb.block bo (h.lt _ h.avs.1))).trans h.thaw, (hb.cell (p := ⟨bl, 0, none⟩) (h.lt _ h.avs.2.1)).trans h.tab, (hb.cell (p := ⟨bm, 0, none⟩) (h.lt _ h.avs.2.2.1)).trans h.cols, (hb.cell (p := ⟨bn, 0, none⟩) (h.lt _ h.avs.2.2.2)).trans h.next, h.row.below hb, h.avs, fun j hj => Nat.lt_of_lt_of_le (h.lt j hj) hb.size, Nat.le_trans h.big hb.size⟩
theorem ColI.more {w0 W : World} {base bo bl bm bn g n many : Nat} {av : Nat → Prop} {qg cap : Nat} {L : List Nat} (h : ColI w0 W base bo bl bm bn g n many av qg cap L) {ab : Nat} (h1 : ab < W.heap.size) (h2 : qg ≠ ab) : ColI w0 W base bo bl bm bn g n many (fun j => av j ∨ j = ab) qg cap L :=
  ⟨h.below, h.out, h.thaw, h.tab, h.cols, h.next, h.row.avoid (fun hh => hh.elim h.row.free h2), ⟨.inl h.avs.1, .inl h.avs.2.1, .inl h.avs.2.2.1, .inl h.avs.2.2.2⟩, fun j hj => hj.elim (h.lt j) (fun e => e ▸ h1), h.big⟩
theorem ColI.less {w0 W : World} {base bo bl bm bn g n many : Nat} {av : Nat → Prop} {qg cap ab : Nat} {L : List Nat} (h : ColI w0 W base bo bl bm bn g n many (fun j => av j ∨ j = ab) qg cap L) (hv : av bo ∧ av bl ∧ av bm ∧ av bn) : ColI w0 W base bo bl bm bn g n many av qg cap L :=
  ⟨h.below, h.out, h.thaw, h.tab, h.cols, h.next, h.row.avoid (fun hh => h.row.free (.inl hh)), hv, fun j hj => h.lt j (.inl hj), h.big⟩
theorem QAt.take {W : World} {base : Nat} {av : Nat → Prop} {g off cap c : Nat} {q : List Nat} (h : QAt W base av g off cap (q ++ [c])) : QAt W base av g off cap q := by
  obtain ⟨cs, h1, h2, h3⟩ := h.blk
  have hf := h.fits
  rw [List.length_append] at hf
  refine ⟨h.base_, h.free, by omega, cs, h1, h2, fun j hj => ?_⟩
  have := h3 j (by rw [List.length_append]; omega)
  rwa [List.getElem_append_left hj] at this
theorem ColI.store {w0 W W5 : World} {base bo bl bm bn g n many : Nat} {av : Nat → Prop} {qg cap qg1 cap1 : Nat} {L L1 : List Nat} (h : ColI w0 W base bo bl bm bn g n many av qg cap L) (hne : bo ≠ bl ∧ bo ≠ bm ∧ bo ≠ bn) (hbo : base ≤ bo) (hq : QAt W5 base av qg1 0 cap1 L1) (hb : Below base w0 W5) (hs : W.heap.size ≤ W5.heap.size) (hk : ∀ j, av j → W5.heap[j]? = W.heap[j]?) :
    ColI w0 (W5.setCell ⟨bo, 0, none⟩ (.slice (some ⟨qg1, 0, none⟩) L1.length cap1)) base bo bl bm bn g n many av qg1 cap1 L1 := by
  obtain ⟨v1, v2, v3, v4⟩ := h.avs
  have hlt : bo < W5.heap.size := Nat.lt_of_lt_of_le (h.lt _ v1) hs
  have other : ∀ j, j ≠ bo → av j → (W5.setCell ⟨bo, 0, none⟩ (.slice (some ⟨qg1, 0, none⟩) L1.length cap1)).heap[j]? = W.heap[j]? := fun j hj ha => (Below.heap_setCell _ _ _ _ hj).trans (hk j ha)
  have ho5 : W5.cell? ⟨bo, 0, none⟩ = some (.slice (some ⟨qg, 0, none⟩) L.length cap) := (World.cell?_of_block (hk bo v1)).trans h.out
  have hf5 : W5.frozen? ⟨bo, 0, none⟩ = false := (World.frozen?_of_block (hk bo v1)).trans h.thaw
  refine ⟨Below.setCell (p := ⟨bo, 0, none⟩) hb hbo _, ?_, ?_, (World.cell?_of_block (other bl hne.1.symm v2)).trans h.tab, (World.cell?_of_block (other bm hne.2.1.symm v3)).trans h.cols, (World.cell?_of_block (other bn hne.2.2.symm v4)).trans h.next, hq.keep (Below.heap_setCell _ _ _ _ (fun e => hq.free (e ▸ v1))), h.avs, fun j hj => by rw [World.size_setCell]; exact Nat.lt_of_lt_of_le (h.lt j hj) hs, by rw [World.size_setCell]; exact Nat.le_trans h.big hs⟩
  · go_simp
  · go_simp
theorem range_any {l : List Nat} {P : Nat → Bool} : ((List.range l.length).any fun r => P (l.getD r 0)) = l.any P := by
  rw [Bool.eq_iff_iff, List.any_eq_true, List.any_eq_true]
  constructor
  · rintro ⟨r, h1, h2⟩
    have hr := List.mem_range.1 h1
    rw [List.getD_eq_getElem?_getD, List.getElem?_eq_getElem hr] at h2
    exact ⟨l[r], List.getElem_mem hr, h2⟩
  · rintro ⟨x, h1, h2⟩
    obtain ⟨r, hr, e⟩ := List.getElem_of_mem h1
    refine ⟨r, List.mem_range.2 hr, ?_⟩
    rw [List.getD_eq_getElem?_getD, List.getElem?_eq_getElem hr]
    show P l[r] = true
    rw [e]; exact h2
set_option maxRecDepth 100000 in
set_option maxHeartbeats 16000000 in
theorem next_any (w0 : World) (base bo bl bm bn g n many : Nat) (rb : Nat → Nat) (T : Nat → Nat → Int) (nb : Nat → Nat → Bool) (hn : 1 ≤ n ∧ n ≤ 9) (hm : many ≤ 9) (hT : ∀ a b, decide (0 < T a b) = nb a b) (hI : ∀ W, Below base w0 W → IntsW W g n rb T) (hne : bo ≠ bl ∧ bo ≠ bm ∧ bo ≠ bn) (hbo : base ≤ bo) :
    ∀ (f : Nat) (L : List Nat) (av : Nat → Prop) (W : World) (qg cap : Nat), n ≤ L.length + f → L.length ≤ n → ColI w0 W base bo bl bm bn g n many av qg cap L →
    Calls Try.prog 144 #[.pointer (some ⟨bo, 0, none⟩), .pointer (some ⟨bl, 0, none⟩), .pointer (some ⟨bm, 0, none⟩), .pointer (some ⟨bn, 0, none⟩)] W fun e W' => ∃ qg' cap', e = .returned (.bool (colS nb n many f L).isSome) ∧ ColI w0 W' base bo bl bm bn g n many av qg' cap' ((colS nb n many f L).getD L) ∧ W.heap.size ≤ W'.heap.size ∧ ∀ j, av j → j ≠ bo → W'.heap[j]? = W.heap[j]? := by
  intro f
  induction f with
  | zero =>
    intro L av W qg cap h1 h2 hc
    have e : L.length = n := by omega
    rw [colS_done e]
    have HC := Aside0.mk (hc.keep ((Below.refl _ _).alloc (Nat.le_refl _) (.cells #[.int .i64 (n : Int)] 3)))
    have HB : Aside0 (Below W.heap.size W (W.alloc (.cells #[.int .i64 (n : Int)] 3))) := ⟨(Below.refl _ _).alloc (Nat.le_refl _) _⟩
    have HLT := Aside0.mk hc.lt
    have c1 := hc.out
    have c2 := hc.tab
    have c2' := HC.out.tab
    rw [e] at c1
    clear hc h1 h2 e
    go_enter Try.func144, Try.ntmps144
    go_wp2_with fail
    go_ret
    exact ⟨qg, cap, rfl, HC.out, HB.out.size, fun j hj _ => HB.out.block j (HLT.out j hj)⟩
  | succ f ih =>
    intro L av W qg cap h1 h2 hc
    by_cases e : L.length = n
    · rw [colS_done e]
      have HC := Aside0.mk (hc.keep ((Below.refl _ _).alloc (Nat.le_refl _) (.cells #[.int .i64 (n : Int)] 3)))
      have HB : Aside0 (Below W.heap.size W (W.alloc (.cells #[.int .i64 (n : Int)] 3))) := ⟨(Below.refl _ _).alloc (Nat.le_refl _) _⟩
      have HLT := Aside0.mk hc.lt
      have c1 := hc.out
      have c2 := hc.tab
      have c2' := HC.out.tab
      rw [e] at c1
      clear hc h1 h2 e ih
      go_enter Try.func144, Try.ntmps144
      go_wp2_with fail
      go_ret
      exact ⟨qg, cap, rfl, HC.out, HB.out.size, fun j hj _ => HB.out.block j (HLT.out j hj)⟩
    · have hlt : L.length < n := by omega
      have HIH := Aside0.mk (fun (c : Nat) (av' : Nat → Prop) W' qg' cap' (h' : ColI w0 W' base bo bl bm bn g n many av' qg' cap' (L ++ [c])) => ih (L ++ [c]) av' W' qg' cap' (by rw [List.length_append, List.length_singleton]; omega) (by rw [List.length_append, List.length_singleton]; omega) h')
      have HNA := Aside0.mk (fun W (hW : Below base w0 W) => near_any g n rb T nb hn.2 hT L.length hlt W (hI W hW))
      obtain ⟨G, hG⟩ : ∃ G, (fun c => if clashB nb n L c then none else colS nb n many f (L ++ [c])) = G := ⟨_, rfl⟩
      have HCS : Aside0 (colS nb n many (f + 1) L = (List.range many).findSome? G) := ⟨by rw [colS_more e, hG]⟩
      have HGC : Aside0 (∀ c, G c = if clashB nb n L c then none else colS nb n many f (L ++ [c])) := ⟨fun c => by rw [← hG]⟩
      rw [HCS.out]
      obtain ⟨a, ha⟩ : ∃ a, L.length = a := ⟨_, rfl⟩
      have HA := Aside0.mk ha
      have hwa := heap_alloc_new W (.cells #[.int .i64 (a : Int)] 3)
      have HC1 : Aside0 (ColI w0 (W.alloc (.cells #[.int .i64 (a : Int)] 3)) base bo bl bm bn g n many (fun j => av j ∨ j = W.heap.size) qg cap L) := ⟨(hc.keep ((Below.refl _ _).alloc (Nat.le_refl _) _)).more (by simp) (by have := hc.row.lt; omega)⟩
      have HW1 : Aside0 ((W.alloc (.cells #[.int .i64 (a : Int)] 3)).heap[W.heap.size]? = some (.cells #[.int .i64 (a : Int)] 3 (0, 0)) ∧ W.heap.size ≤ (W.alloc (.cells #[.int .i64 (a : Int)] 3)).heap.size ∧ ∀ j, av j → j ≠ bo → (W.alloc (.cells #[.int .i64 (a : Int)] 3)).heap[j]? = W.heap[j]?) := ⟨hwa, by simp, fun j hj _ => Below.heap_alloc _ _ _ (hc.lt j hj)⟩
      have HAV := Aside0.mk (And.intro hc.avs hc.lt)
      have hla : ((a : Int) == (n : Int)) = false := by rw [beq_eq_false_iff_ne]; omega
      have c1 := hc.out
      have c2 := HC1.out.tab
      have c3 := HC1.out.cols
      have c4 := HW1.out.1
      rw [ha] at c1
      have c5 := Lib.cell_of_heap c4 0
      simp only [List.getElem?_toArray, List.getElem?_cons_zero] at c5
      have hrow9 : a ≤ 9 := by omega
      obtain ⟨s, hs⟩ : ∃ s, W.heap.size = s := ⟨_, rfl⟩
      rw [hs] at HC1 HW1 c5
      have HSS := Aside0.mk hs
      clear ih hc e h1 h2 hlt ha hwa hG c4 hI
      go_enter Try.func144, Try.ntmps144
      go_wp2_with fail
      go_loopw [15] (fun i wr => ∃ (c qg cap : Nat), i = .int .i64 c ∧ c ≤ many ∧ Aside0 (ColI w0 wr base bo bl bm bn g n many (fun j => av j ∨ j = s) qg cap L ∧ (List.range c).findSome? G = none ∧ wr.heap[s]? = some (.cells #[.int .i64 (a : Int)] 3 (0, 0)) ∧ s ≤ wr.heap.size ∧ ∀ j, av j → j ≠ bo → wr.heap[j]? = W.heap[j]?)) (fun i _ => many - (intOf i).toNat)
      case atStart => exact ⟨0, qg, cap, rfl, Nat.zero_le _, ⟨HC1.out, rfl, HW1.out.1, HW1.out.2.1, HW1.out.2.2⟩⟩
      case round =>
        obtain ⟨c, qg, cap, rfl, hc, HD⟩ := hrel
        obtain ⟨wo, rfl⟩ : ∃ wo : World, wo = wr := ⟨_, rfl⟩
        clear c1 c2 c3 c5
        by_cases hlt : (c : Int) < (many : Int)
        · obtain ⟨d1, d2, d3, d4, d5⟩ := HD.out
          have hb1 : Below wo.heap.size wo (wo.alloc (.cells #[.int .i64 (c : Int)] 3)) := (Below.refl _ _).alloc (Nat.le_refl _) _
          have hcb := heap_alloc_new wo (.cells #[.int .i64 (c : Int)] 3)
          have HI1 := Aside0.mk (d1.keep hb1)
          have HCB := Aside0.mk hcb
          have hs1 : (wo.alloc (.cells #[.int .i64 (c : Int)] 3)).heap[s]? = some (.cells #[.int .i64 (a : Int)] 3 (0, 0)) := (hb1.block s (d1.lt s (.inr rfl))).trans d3
          have HS1 := Aside0.mk hs1
          have e1 := HI1.out.tab
          have e2 := Lib.cell_of_heap hs1 0
          simp only [List.getElem?_toArray, List.getElem?_cons_zero] at e2
          have HN1 : Aside0 (Calls Try.prog 78 #[.slice (some ⟨g, 0, none⟩) n n, .int .i64 (a : Int)] (wo.alloc (.cells #[.int .i64 (c : Int)] 3)) fun e w' => RowI (wo.alloc (.cells #[.int .i64 (c : Int)] 3)) w' e (nearTo nb a n)) := ⟨by
            have h := HNA.out _ HI1.out.below
            rw [HA.out] at h
            exact h⟩
          have HLT0 := Aside0.mk (And.intro d1.lt d4)
          clear hb1 hcb hs1 d1 d2 d3 d4 d5
          go_wp2_with fail
          refine HN1.out.mono ?_
          rintro e w3 ⟨⟨A3, c3, rfl, ho⟩, hb3⟩
          have hI3 := HI1.out.keep hb3
          have hs3 := (hb3.block s (by have := HLT0.out.1 s (.inr rfl); simp; omega)).trans HS1.out
          have hc3 := (hb3.block wo.heap.size (by simp)).trans HCB.out
          have HRC := Aside0.mk (rowC_own ho)
          have hcl : (nearTo nb a n).length ≤ c3 := by
            rcases ho.2 with ⟨e, e0⟩ | ⟨_, _, _, e, _, _, h5, _⟩
            · omega
            · injection e with e1 e2 e3; omega
          have hnl := nearTo_len nb a n
          have HLL : Aside0 ((nearL nb n a).length = (nearTo nb a n).length) := ⟨by unfold nearTo; rw [List.length_map]⟩
          have HGD : Aside0 (∀ r, r < (nearTo nb a n).length → (nearTo nb a n).getD r 0 = (((nearL nb n a).getD r 0 : Nat) : Int)) := ⟨fun r hr => by
            obtain ⟨h1, h2⟩ := nearTo_get hr
            rw [List.getD_eq_getElem?_getD, List.getElem?_eq_getElem hr, List.getD_eq_getElem?_getD, List.getElem?_eq_getElem h1]
            exact h2⟩
          have HCT : Aside0 (Calls Try.prog 146 #[.slice A3 (nearTo nb a n).length c3, .func (.func 145) #[] #[.pointer (some ⟨s, 0, none⟩), .pointer (some ⟨bo, 0, none⟩), .pointer (some ⟨wo.heap.size, 0, none⟩)]] w3 fun e w' => e = .returned (.bool (clashB nb n L c)) ∧ ∃ q, w' = w3.drewN q) := ⟨by
            have h := containsI_dr A3 (nearTo nb a n).length c3 (by omega) hcl (fun r => .int .i64 (((nearL nb n a).getD r 0 : Nat) : Int)) (fun r => clashAt L c ((nearL nb n a).getD r 0)) 145 #[.pointer (some ⟨s, 0, none⟩), .pointer (some ⟨bo, 0, none⟩), .pointer (some ⟨wo.heap.size, 0, none⟩)] w3 (fun r hr => by
              obtain ⟨gr, hA, hcell⟩ := HRC.out r hr
              refine ⟨gr, hA, ?_⟩
              rw [hcell]
              congr 2
              rw [← HGD.out r hr, List.getD_eq_getElem?_getD, List.getElem?_eq_getElem hr]; rfl) enter_clash (fun r q hr => by
              refine (clash_any s bo wo.heap.size qg cap c L (w3.drewN q) ?_ ?_ ?_ hI3.row.fits (fun j hj => ?_) ((nearL nb n a).getD r 0)).mono ?_
              · rw [HA.out]
                exact (Lib.cell_of_heap hs3 0)
              · exact hI3.out
              · exact (Lib.cell_of_heap hc3 0)
              · have h := hI3.row.cell hj
                rw [Nat.zero_add] at h
                exact h
              · rintro e w' ⟨rfl, q', rfl⟩
                exact ⟨rfl, q + q', by rw [World.drewN_drewN]⟩)
            rw [← HLL.out, range_any] at h
            have e : (nearL nb n a).any (clashAt L c) = clashB nb n L c := by unfold clashB; rw [HA.out]
            rw [e, HLL.out] at h
            exact h⟩
          have HI3 := Aside0.mk hI3
          have HS3 := Aside0.mk (And.intro hs3 hc3)
          have HB3 := Aside0.mk hb3
          obtain ⟨l, hl⟩ : ∃ l, (nearTo nb a n).length = l := ⟨_, rfl⟩
          rw [hl] at HCT ⊢
          clear ho hb3 hI3 hs3 hc3 hcl hnl hl e1 e2
          go_wp2_with fail
          refine HCT.out.mono ?_
          rintro e w4 ⟨rfl, q4, rfl⟩
          have HI4 : Aside0 (ColI w0 (w3.drewN q4) base bo bl bm bn g n many (fun j => av j ∨ j = s) qg cap L) := ⟨HI3.out.keep (pw_below_drewN (Below.refl _ _) _)⟩
          have HF4 : Aside0 (∀ j, av j → j ≠ bo → (w3.drewN q4).heap[j]? = W.heap[j]?) := ⟨fun j hj hne => (HB3.out.block j (by have := HLT0.out.1 j (.inl hj); simp; omega)).trans ((Below.heap_alloc _ _ _ (HLT0.out.1 j (.inl hj))).trans (HD.out.2.2.2.2 j hj hne))⟩
          have HS4 : Aside0 ((w3.drewN q4).heap[s]? = some (.cells #[.int .i64 (a : Int)] 3 (0, 0)) ∧ (w3.drewN q4).heap[wo.heap.size]? = some (.cells #[.int .i64 (c : Int)] 3 (0, 0)) ∧ s ≤ (w3.drewN q4).heap.size) := ⟨HS3.out.1, HS3.out.2, by have := (Array.getElem?_eq_some_iff.1 HS3.out.1).1; show s ≤ w3.heap.size; omega⟩
          obtain ⟨W4, hW4⟩ : ∃ W4, w3.drewN q4 = W4 := ⟨_, rfl⟩
          rw [hW4] at HI4 HF4 HS4 ⊢
          clear hW4 HI3 HS3 HB3 HCT HN1 HI1
          cases hcl : clashB nb n L c with
          | true =>
            have HG : Aside0 ((List.range (c + 1)).findSome? G = none) := ⟨by rw [find_succ, HD.out.2.1]; simp only [HGC.out, hcl, if_true]⟩
            clear hcl
            go_wp2_with fail
            go_roundw
            case rel => exact ⟨c + 1, qg, cap, by go_num, by omega, ⟨HI4.out, HG.out, HS4.out.1, HS4.out.2.2, HF4.out⟩⟩
            case measure => simp [intOf]; omega
          | false =>
            have HG : Aside0 (G c = colS nb n many f (L ++ [c])) := ⟨by rw [HGC.out, hcl, if_neg (by simp)]⟩
            have f1 := HI4.out.out
            have f2 := Lib.cell_of_heap HS4.out.2.1 0
            simp only [List.getElem?_toArray, List.getElem?_cons_zero] at f2
            rw [HA.out] at f1
            have HAVL : Aside0 (∀ j, (av j ∨ j = s) → j < W4.heap.size) := ⟨HI4.out.lt⟩
            have f3 : (W4.alloc (.cells #[.int .i64 (c : Int)] 3)).frozen? ⟨bo, 0, none⟩ = false := (World.frozen?_of_block (Below.heap_alloc _ _ _ (HI4.out.lt bo HI4.out.avs.1))).trans HI4.out.thaw
            have hbn : ¬ bn = bo := fun e => hne.2.2 e.symm
            have hbn2 : ¬ bo = bn := hne.2.2
            clear hcl f3
            go_wp2_with (at_builtin; refine app_q (w0 := w0) base rfl (.tmp 24) (.tmp 26) rfl (fun j => av j ∨ j = s) qg 0 cap a L c HA.out.symm rfl rfl HI4.out.row HI4.out.below HI4.out.big HAVL.out ?k3 ?_; (case k3 => rw [HA.out]; omega); intro g5 o5 c5 w5 hqa hba hsa hfa hoff; obtain rfl : o5 = 0 := (by omega); have HQA := Aside0.mk hqa; have HBA := Aside0.mk hba; have HSA := Aside0.mk hsa; have HFA := Aside0.mk hfa; have f4 := (World.cell?_of_block (hfa bo HI4.out.avs.1)).trans f1; have f5 := (World.frozen?_of_block (hfa bo HI4.out.avs.1)).trans HI4.out.thaw; have f6 : w5.cell? ⟨bn, 0, none⟩ = some (.func (.func 144) #[] #[.pointer (some ⟨bo, 0, none⟩), .pointer (some ⟨bl, 0, none⟩), .pointer (some ⟨bm, 0, none⟩), .pointer (some ⟨bn, 0, none⟩)]) := (World.cell?_of_block (hfa bn HI4.out.avs.2.2.2)).trans HI4.out.next; clear hqa hba hsa hfa)
            have HI6 := Aside0.mk (HI4.out.store hne hbo HQA.out HBA.out HSA.out HFA.out)
            have hL1 : (L ++ [c]).length = a + 1 := by rw [List.length_append, HA.out]; rfl
            rw [hL1] at HI6
            have HL1 := Aside0.mk hL1
            have HCL := Aside0.mk (HIH.out c _ _ _ _ HI6.out)
            clear hL1 f4 f5 f6
            refine HCL.out.mono ?_
            rintro e w7 ⟨g7, c7, rfl, hI7, hs7, hf7⟩
            rw [← HG.out] at hI7 ⊢
            have HF7 : Aside0 (∀ j, av j → j ≠ bo → w7.heap[j]? = W.heap[j]?) := ⟨fun j hj hn => by
              rw [hf7 j (.inl hj) hn, Below.heap_setCell _ _ _ _ hn, HFA.out j (.inl hj)]
              exact HF4.out j hj hn⟩
            have HS7 : Aside0 (w7.heap[s]? = some (.cells #[.int .i64 (a : Int)] 3 (0, 0)) ∧ s ≤ w7.heap.size) := ⟨by
              have hsb : s ≠ bo := fun e => by have := HAV.out.2 bo HAV.out.1.1; have := HSS.out; omega
              rw [hf7 s (.inr rfl) hsb, Below.heap_setCell _ _ _ _ hsb, HFA.out s (.inr rfl)]
              exact HS4.out.1, by
              rw [World.size_setCell] at hs7
              have := HS4.out.2.2; have := HSA.out; omega⟩
            have HI7 := Aside0.mk hI7
            clear hI7 hs7 hf7
            cases hgc : G c with
            | some R =>
              rw [hgc] at HI7
              have HFS : Aside0 ((List.range many).findSome? G = some R) := ⟨find_stop HD.out.2.1 (by omega) hgc⟩
              have HE := Aside0.mk (HI7.out.less HAV.out.1)
              clear hgc
              simp only [Option.isSome_some]
              go_wp2_with fail
              go_ret
              exact ⟨g7, c7, by rw [HFS.out]; rfl, by rw [HFS.out]; exact HE.out, by have := HS7.out.2; have := HSS.out; omega, HF7.out⟩
            | none =>
              rw [hgc] at HI7
              have HI7' : Aside0 (ColI w0 w7 base bo bl bm bn g n many (fun j => av j ∨ j = s) g7 c7 (L ++ [c])) := ⟨HI7.out⟩
              have HFS : Aside0 ((List.range (c + 1)).findSome? G = none) := ⟨by rw [find_succ, HD.out.2.1]; exact hgc⟩
              have g1 := HI7'.out.out
              rw [HL1.out] at g1
              have g2 := Lib.cell_of_heap HS7.out.1 0
              simp only [List.getElem?_toArray, List.getElem?_cons_zero] at g2
              have g3 := HI7'.out.thaw
              have g4 := HI7'.out.row.fits
              rw [HL1.out] at g4
              have hsb : ¬ s = bo := fun e => by have := HAV.out.2 bo HAV.out.1.1; have := HSS.out; omega
              have HI8 : Aside0 (ColI w0 (w7.setCell ⟨bo, 0, none⟩ (.slice (some ⟨g7, 0, none⟩) a c7)) base bo bl bm bn g n many (fun j => av j ∨ j = s) g7 c7 L) := ⟨by
                have h := HI7'.out.store hne hbo HI7'.out.row.take HI7'.out.below (Nat.le_refl _) (fun _ _ => rfl)
                rw [HA.out] at h
                exact h⟩
              have HF8 : Aside0 (∀ j, av j → j ≠ bo → (w7.setCell ⟨bo, 0, none⟩ (.slice (some ⟨g7, 0, none⟩) a c7)).heap[j]? = W.heap[j]?) := ⟨fun j hj hn => (Below.heap_setCell _ _ _ _ hn).trans (HF7.out j hj hn)⟩
              have HS8 : Aside0 ((w7.setCell ⟨bo, 0, none⟩ (.slice (some ⟨g7, 0, none⟩) a c7)).heap[s]? = some (.cells #[.int .i64 (a : Int)] 3 (0, 0)) ∧ s ≤ (w7.setCell ⟨bo, 0, none⟩ (.slice (some ⟨g7, 0, none⟩) a c7)).heap.size) := ⟨(Below.heap_setCell _ _ _ _ hsb).trans HS7.out.1, by rw [World.size_setCell]; exact HS7.out.2⟩
              have a0 : (0 : Int) ≤ (a : Int) := by omega
              have hac : (a : Int) ≤ (c7 : Int) := by omega
              clear hgc HI7 hs
              simp only [Option.isSome_none]
              go_wp2_with fail
              go_roundw
              case rel => exact ⟨c + 1, g7, c7, by go_num, by omega, ⟨HI8.out, HFS.out, HS8.out.1, HS8.out.2, HF8.out⟩⟩
              case measure => simp [intOf]; omega
        · have hcm : c = many := by omega
          have HFS : Aside0 ((List.range many).findSome? G = none) := ⟨by rw [← hcm]; exact HD.out.2.1⟩
          have HE := Aside0.mk (HD.out.1.less HAV.out.1)
          clear hcm
          go_wp2_with fail
          go_ret
          exact ⟨by rw [HFS.out]; rfl, ⟨qg, cap, by rw [HFS.out]; exact HE.out⟩, by have := HD.out.2.2.2.1; have := HSS.out; omega, HD.out.2.2.2.2⟩
end Go.Proofs.Ytbpppchkgjcahaa
