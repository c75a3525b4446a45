/- Texts of this claim's, joined by a program: DrawOnes, PlanRooms, TextLen, ListOwn, CutStuckS, CutStuck. -/
import Derived.Test.YtiehiockjlhbcaaKPlanDraw
import Derived.Test.YtiehiockjlhbcaaKSpecTextM
import Derived.Test.YtiehiockjlhbcaaKLettersM
import Derived.Test.YtiehiockjlhbcaaKFloorRM
section
/- Draws that are l91One. -/
namespace Go.Proofs.Ytiehiockjlhbcaa
open Go.RowKit Go.Shelf Go.Proofs.YtiehiockjlhbcaaW.PrintWords Go.Proofs.YtiehiockjlhbcaaW.PrintMore
set_option linter.unusedVariables false
theorem DrawPlanRooms_any (A : Option Addr) (n cap : Nat) (bs : List Int) (w : World) (h : Code0 w A n cap bs) :
    Calls Try.prog 24 #[.slice A n cap] w fun e w' => DrewOne w w' e := by
  have H := Aside0.mk h
  clear h
  go_enter Try.func24, Try.ntmps24
  go_wp2_with fail
  refine (l91One_any A n cap bs _ H.out).mono ?_
  rintro e w1 ⟨q, A2, c2, rfl, HD⟩
  go_wp2_with fail
  go_ret
  exact ⟨q, A2, c2, rfl, HD⟩
theorem DrawCutText_any (A : Option Addr) (n cap : Nat) (bs : List Int) (w : World) (h : Code0 w A n cap bs) :
    Calls Try.prog 41 #[.slice A n cap] w fun e w' => DrewOne w w' e := by
  have H := Aside0.mk h
  clear h
  go_enter Try.func41, Try.ntmps41
  go_wp2_with fail
  refine (l91One_any A n cap bs _ H.out).mono ?_
  rintro e w1 ⟨q, A2, c2, rfl, HD⟩
  go_wp2_with fail
  go_ret
  exact ⟨q, A2, c2, rfl, HD⟩
end Go.Proofs.Ytiehiockjlhbcaa
end
section
/- PlanRooms, both sides. -/
namespace Go.Proofs.Ytiehiockjlhbcaa
open Go.RowKit Go.Shelf Go.Proofs.YtiehiockjlhbcaaW.PrintWords Go.Proofs.YtiehiockjlhbcaaW.PrintMore
set_option linter.unusedVariables false
set_option linter.unusedSimpArgs false

def roomsP (p : List ByteArray) : Int × Bool := if planG p then (((boxesP p).length : Int), true) else (0, false)
set_option maxHeartbeats 4000000 in
theorem planRooms_any (A : Option Addr) (cap : Nat) (p : List ByteArray) (hp : SmallP p) (w : World) (hr0 : Kd.C Kd.string w A p.length p) (hc0 : p.length ≤ cap) :
    Calls Try.prog 25 #[.slice A p.length cap] w fun e w' => e = .returned (.tuple #[.int .i64 (roomsP p).1, .bool (roomsP p).2]) ∧ Below w.heap.size w w' := by
  have HFL := floorOf_any A cap p hp.1 hp.2 w hr0 hc0
  clear hr0
  go_enter Try.func25, Try.ntmps25
  go_wp2_with fail
  refine HFL.mono ?_
  rintro e w1 ⟨hb1, ⟨hpl, fb, base, rfl, hbase, hfl⟩ | ⟨hpl, o, rfl⟩⟩
  · have HB1 := Aside0.mk hb1
    obtain ⟨g, rb, RA, rc, h1, h2, h3, h4, h5, h6⟩ := hfl.reads
    have HV : Aside0 (roomsP p = (((boxesP p).length : Int), true)) := ⟨by unfold roomsP; rw [if_pos hpl]⟩
    clear hb1 hpl hfl h5 h6
    go_wp2_with fail
    go_ret2
    exact ⟨by rw [HV.out]; rfl, HB1.out⟩
  · have HB1 := Aside0.mk hb1
    have HV : Aside0 (roomsP p = (0, false)) := ⟨by unfold roomsP; rw [hpl]; rfl⟩
    clear hb1 hpl
    go_wp2_with fail
    go_ret2
    exact ⟨by rw [HV.out]; rfl, HB1.out⟩
set_option maxHeartbeats 4000000 in
theorem specPlanRooms_any (A : Option Addr) (cap : Nat) (p : List ByteArray) (hp : SmallP p) (w : World) (hr0 : Kd.C Kd.string w A p.length p) (hc0 : p.length ≤ cap) :
    Calls Try.prog 26 #[.slice A p.length cap] w fun e w' => e = .returned (.tuple #[.int .i64 (roomsP p).1, .bool (roomsP p).2]) ∧ Below w.heap.size w w' := by
  have HPI := Aside0.mk (fun W (hW : Below w.heap.size w W) => spec_PlanIn.calls A cap p (planG p) W (Kd.C_below hr0 hW) hc0 (by unfold spec_PlanIn.f; rw [if_pos hp]))
  by_cases hpl : planG p = true
  · obtain ⟨kr, hkr⟩ := plan_rooms hpl
    have HRM := Aside0.mk (fun W (hW : Below w.heap.size w W) => L2.spec_l1Rooms.calls kr A cap p _ W (Kd.C_below hr0 hW) hc0 hkr)
    have HV : Aside0 (roomsP p = (((boxesP p).length : Int), true)) := ⟨by unfold roomsP; rw [if_pos hpl]⟩
    rw [hpl] at HPI
    clear hr0 hkr hpl
    go_enter Try.func26, Try.ntmps26
    go_wp2_with fail
    refine (HPI.out _ (Below.refl _ _)).mono ?_
    rintro e w1 ⟨rfl, hb1⟩
    have HB1 := Aside0.mk hb1
    clear hb1
    go_wp2_with fail
    refine (HRM.out _ HB1.out).mono ?_
    rintro e w2 ⟨rfl, hb2⟩
    have HB2 := Aside0.mk (HB1.out.trans (hb2.mono HB1.out.size))
    clear hb2
    go_wp2_with fail
    go_ret2
    exact ⟨by rw [HV.out]; rfl, HB2.out⟩
  · have hplf : planG p = false := by simpa using hpl
    have HV : Aside0 (roomsP p = (0, false)) := ⟨by unfold roomsP; rw [hplf]; rfl⟩
    rw [hplf] at HPI
    clear hr0 hpl hplf
    go_enter Try.func26, Try.ntmps26
    go_wp2_with fail
    refine (HPI.out _ (Below.refl _ _)).mono ?_
    rintro e w1 ⟨rfl, hb1⟩
    have HB1 := Aside0.mk hb1
    clear hb1
    go_wp2_with fail
    go_ret2
    exact ⟨by rw [HV.out]; rfl, HB1.out⟩
end Go.Proofs.Ytiehiockjlhbcaa
end
section
/- The plain law: a cut text has a letter for each room, and one less cut. -/
namespace Go.Proofs.Ytiehiockjlhbcaa
open Go.RowKit Go.Shelf Go.Proofs.YtiehiockjlhbcaaW.PrintWords Go.Proofs.YtiehiockjlhbcaaW.PrintMore
set_option linter.unusedVariables false
set_option linter.unusedSimpArgs false

/-- The cells of both parts of a cut are those of the part, and of one of them alone. -/
theorem in_parts {cl : Nat → Nat → Int} {r c ph pw : Nat} {x : Bool × Nat} (hx : x ∈ cutsL cl r c ph pw) (i j : Nat) :
    (InR r c ph pw i j ↔ InR (oneR r c ph pw x).1 (oneR r c ph pw x).2.1 (oneR r c ph pw x).2.2.1 (oneR r c ph pw x).2.2.2 i j ∨ InR (twoR r c ph pw x).1 (twoR r c ph pw x).2.1 (twoR r c ph pw x).2.2.1 (twoR r c ph pw x).2.2.2 i j) ∧
    ¬ (InR (oneR r c ph pw x).1 (oneR r c ph pw x).2.1 (oneR r c ph pw x).2.2.1 (oneR r c ph pw x).2.2.2 i j ∧ InR (twoR r c ph pw x).1 (twoR r c ph pw x).2.1 (twoR r c ph pw x).2.2.1 (twoR r c ph pw x).2.2.2 i j) := by
  have hc := cutsL_in hx
  obtain ⟨b, k⟩ := x
  cases b with
  | true =>
    simp only [if_true] at hc
    unfold InR oneR twoR
    simp only [if_true]
    omega
  | false =>
    simp only [Bool.false_eq_true, if_false] at hc
    unfold InR oneR twoR
    simp only [Bool.false_eq_true, if_false]
    omega
/-- A part has as many rooms as both its halves. -/
theorem list_cut {cl : Nat → Nat → Int} {boxes : List Box} {h wd r c ph pw : Nat} (f : Flat cl boxes h wd) (hw : Whole cl h wd r c ph pw) {x : Bool × Nat} (hx : x ∈ cutsL cl r c ph pw) : ∀ n, n ≤ boxes.length →
    (listL boxes (natB r c ph pw) n).length = (listL boxes (boxR (oneR r c ph pw x)) n).length + (listL boxes (boxR (twoR r c ph pw x)) n).length := by
  obtain ⟨w1, w2⟩ := whole_parts f hw hx
  intro n
  induction n with
  | zero => intro _; rfl
  | succ n ih =>
    intro hn
    have e := ih (by omega)
    have hk : n < boxes.length := by omega
    have h0 := room_within f hw n hk
    have h1 := room_within f w1 n hk
    have h2 := room_within f w2 n hk
    change bothB (boxR (oneR r c ph pw x)) boxes[n] = boxR (oneR r c ph pw x) ↔ _ at h1
    change bothB (boxR (twoR r c ph pw x)) boxes[n] = boxR (twoR r c ph pw x) ↔ _ at h2
    by_cases c1 : bothB (boxR (oneR r c ph pw x)) boxes[n] = boxR (oneR r c ph pw x)
    · have c2 : ¬ bothB (boxR (twoR r c ph pw x)) boxes[n] = boxR (twoR r c ph pw x) := fun c2 => by
        obtain ⟨i, j, g1, g2⟩ := h1.1 c1
        obtain ⟨i', j', g3, g4⟩ := h2.1 c2
        have := w1.all i j i' j' g1 (by have := w2.row; have := g3.1; omega) (by have := w2.col; have := g3.2; omega) (g2.trans g4.symm)
        exact (in_parts hx i' j').2 ⟨this, g3⟩
      have c0 : bothB (natB r c ph pw) boxes[n] = natB r c ph pw := by
        obtain ⟨i, j, g1, g2⟩ := h1.1 c1
        exact h0.2 ⟨i, j, (in_parts hx i j).1.2 (.inl g1), g2⟩
      rw [listL_yes hk c0, listL_yes hk c1, listL_no hk c2, List.length_append, List.length_append, e]
      simp only [List.length_singleton]; omega
    · by_cases c2 : bothB (boxR (twoR r c ph pw x)) boxes[n] = boxR (twoR r c ph pw x)
      · have c0 : bothB (natB r c ph pw) boxes[n] = natB r c ph pw := by
          obtain ⟨i, j, g1, g2⟩ := h2.1 c2
          exact h0.2 ⟨i, j, (in_parts hx i j).1.2 (.inr g1), g2⟩
        rw [listL_yes hk c0, listL_no hk c1, listL_yes hk c2, List.length_append, List.length_append, e]
        simp only [List.length_singleton]; omega
      · have c0 : ¬ bothB (natB r c ph pw) boxes[n] = natB r c ph pw := fun c0 => by
          obtain ⟨i, j, g1, g2⟩ := h0.1 c0
          rcases (in_parts hx i j).1.1 g1 with g | g
          · exact c1 (h1.2 ⟨i, j, g, g2⟩)
          · exact c2 (h2.2 ⟨i, j, g, g2⟩)
        rw [listL_no hk c0, listL_no hk c1, listL_no hk c2, e]
/-- The letters of cuts. -/
def cutN (s : List UInt8) : Nat := (s.filter fun x => x == 118 || x == 104).length
theorem cutN_app (a b : List UInt8) : cutN (a ++ b) = cutN a + cutN b := by unfold cutN; rw [List.filter_append, List.length_append]
theorem text_len {cl : Nat → Nat → Int} {boxes : List Box} {h wd : Nat} (f : Flat cl boxes h wd) : ∀ (n r c ph pw : Nat), Whole cl h wd r c ph pw → ∀ s, textL cl boxes n (r, c, ph, pw) = some s →
    s.length + 1 = 2 * (listL boxes (natB r c ph pw) boxes.length).length ∧ cutN s + 1 = (listL boxes (natB r c ph pw) boxes.length).length := by
  intro n
  induction n with
  | zero => intro r c ph pw _ s h; cases h
  | succ n ih =>
    intro r c ph pw hw s hs
    by_cases h1 : (listL boxes (natB r c ph pw) boxes.length).length = 1
    · rw [textL_one h1] at hs
      obtain rfl := Option.some.inj hs
      rw [h1]
      obtain ⟨k, e⟩ := List.length_eq_one_iff.1 h1
      obtain ⟨m, em, hm, _⟩ := listL_mem (k := k) (by rw [e]; exact List.mem_singleton.2 rfl)
      refine ⟨rfl, ?_⟩
      rw [e, em]
      have hfew := f.few
      have : cutN [capL [(m : Int)]] = 0 := by
        have : ∀ m : Fin 9, cutN [capL [((m.val : Nat) : Int)]] = 0 := by decide
        exact this ⟨m, by omega⟩
      omega
    · cases hx : (cutsL cl r c ph pw).head? with
      | none => rw [textL_none h1 hx] at hs; cases hs
      | some x =>
        have hxm := head_in hx
        obtain ⟨w1, w2⟩ := whole_parts f hw hxm
        have hcut := list_cut f hw hxm boxes.length (Nat.le_refl _)
        rw [textL_some h1 hx] at hs
        split at hs
        · rename_i a b ha hb
          obtain rfl := Option.some.inj hs
          obtain ⟨a1, a2⟩ := ih _ _ _ _ w1 a ha
          obtain ⟨b1, b2⟩ := ih _ _ _ _ w2 b hb
          change a.length + 1 = 2 * (listL boxes (boxR (oneR r c ph pw x)) boxes.length).length at a1
          change cutN a + 1 = (listL boxes (boxR (oneR r c ph pw x)) boxes.length).length at a2
          change b.length + 1 = 2 * (listL boxes (boxR (twoR r c ph pw x)) boxes.length).length at b1
          change cutN b + 1 = (listL boxes (boxR (twoR r c ph pw x)) boxes.length).length at b2
          have hl : cutN (letterL x :: (a ++ b)) = 1 + (cutN a + cutN b) := by
            rw [show letterL x :: (a ++ b) = [letterL x] ++ (a ++ b) from rfl, cutN_app, cutN_app]
            congr 1
            obtain ⟨bb, k⟩ := x
            cases bb <;> rfl
          refine ⟨?_, ?_⟩
          · simp only [List.length_cons, List.length_append]; omega
          · rw [hl]; omega
        · cases hs
theorem list_all {cl : Nat → Nat → Int} {boxes : List Box} {h wd : Nat} (f : Flat cl boxes h wd) : ∀ n, n ≤ boxes.length → (listL boxes (natB 0 0 h wd) n).length = n := by
  intro n
  induction n with
  | zero => intro _; rfl
  | succ n ih =>
    intro hn
    have hk : n < boxes.length := by omega
    have hy : bothB (natB 0 0 h wd) boxes[n] = natB 0 0 h wd := by
      obtain ⟨a, b, d, e, hb, h1, h2, h3, h4, _⟩ := f.box n hk
      rw [hb, both_within]; omega
    rw [listL_yes hk hy, List.length_append, ih (by omega)]
    rfl
/-- A plan's cut text. -/
theorem cutText_len {p : List ByteArray} (h : planG p = true) {s : List UInt8} (hs : cutTextO p = some s) : s.length + 1 = 2 * (boxesP p).length ∧ cutN s + 1 = (boxesP p).length := by
  have f := planFlat h
  have := text_len f 13 0 0 p.length (wdP p) f.whole s hs
  rwa [list_all f _ (Nat.le_refl _)] at this
end Go.Proofs.Ytiehiockjlhbcaa
end
section
/- part.list with its row as one of the call's own (a copy of list_any's walk, with another end). -/
namespace Go.Proofs.Ytiehiockjlhbcaa
open Go.RowKit Go.Shelf Go.Proofs.YtiehiockjlhbcaaW.PrintWords Go.Proofs.YtiehiockjlhbcaaW.PrintMore
set_option linter.unusedVariables false
set_option maxRecDepth 100000 in
set_option maxHeartbeats 16000000 in
theorem list_own (fb h wd : Nat) (cl : Nat → Nat → Int) (boxes : List Box) (w : World) (hf : FloorR w fb h wd cl boxes) (b : Box) (hb : BoxIn b) (hbs : ∀ x ∈ boxes, BoxIn x) (hn : boxes.length ≤ 1000) :
    Calls Try.prog 58 #[partV fb b] w fun e w' => (∃ (A : Option Addr) (c : Nat), e = .returned (.slice A (listL boxes b boxes.length).length c) ∧ w'.ownsRow w.heap.size 3 1 (.slice A (listL boxes b boxes.length).length c) (listL boxes b boxes.length).length (nums .i64 (listL boxes b boxes.length))) ∧ Below w.heap.size w w' := by
  obtain ⟨b0, b1, b2, b3⟩ := b
  unfold partV
  dsimp only
  have HF := Aside0.mk hf
  have HBB := Aside0.mk hb
  have HBS := Aside0.mk hbs
  obtain ⟨g, rb, RA, rc, h1, h2, h3, h4, h5, h6⟩ := hf
  have HH1 := Aside0.mk h1
  have HH6 := Aside0.mk h6
  obtain ⟨W1, hW1⟩ : ∃ W1 : World, W1 = w.alloc (.cells #[.pointer (some ⟨fb, 0, none⟩), .int .i64 b0, .int .i64 b1, .int .i64 b2, .int .i64 b3] 52) := ⟨_, rfl⟩
  have ca : (w.alloc (.cells #[.pointer (some ⟨fb, 0, none⟩), .int .i64 b0, .int .i64 b1, .int .i64 b2, .int .i64 b3] 52)).cell? ⟨fb, 1, none⟩ = some (.slice RA boxes.length rc) := (World.cell?_of_block (Below.heap_alloc _ _ _ h1)).trans h4
  have HS1 : Aside0 (W1.heap.size = w.heap.size + 1) := ⟨by rw [hW1]; simp⟩
  have HB1 : Aside0 (Below w.heap.size w W1) := ⟨by rw [hW1]; exact (Below.refl _ _).alloc (Nat.le_refl _) _⟩
  have HT : Aside0 (W1.heap[w.heap.size]? = some (.cells #[.pointer (some ⟨fb, 0, none⟩), .int .i64 b0, .int .i64 b1, .int .i64 b2, .int .i64 b3] 52 (0, 0))) := ⟨by rw [hW1]; exact heap_alloc_new w _⟩
  have HW1 := Aside0.mk hW1
  clear h5 h6 h1 h2 h3 hb hbs hW1
  go_enter Try.func58, Try.ntmps58
  go_wp2_with fail
  rw [← HW1.out]
  go_loopw [3, 12] (fun v i wr => ∃ (k n c : Nat) (A : Option Addr), i = .int .i64 k ∧ k ≤ boxes.length ∧ v = .slice A n c ∧ Aside0 (n = (listL boxes (b0, b1, b2, b3) k).length ∧ wr.ownsRow (w.heap.size + 1) 3 1 (.slice A n c) n (nums .i64 (listL boxes (b0, b1, b2, b3) k)) ∧ Below (w.heap.size + 1) W1 wr)) (fun _ i _ => boxes.length - (intOf i).toNat)
  case atStart =>
    exact ⟨0, 0, 0, none, rfl, Nat.zero_le _, rfl, ⟨rfl, World.ownsRow_nil _ _ _ _, Below.refl _ _⟩⟩
  case round =>
    obtain ⟨k, n, c, A, rfl, hk, rfl, HD⟩ := hrel
    by_cases hlt : (k : Int) < (boxes.length : Int)
    · have hkl : k < boxes.length := by omega
      obtain ⟨rg, hRA, hrg, hrc⟩ := HH6.out (fun e => by rw [e] at hkl; simp at hkl)
      obtain ⟨c1, c2, c3, c4⟩ := hrc k hkl
      obtain ⟨⟨d0, d1, d2, d3⟩, hd⟩ : ∃ d, boxes[k] = d := ⟨_, rfl⟩
      rw [hd] at c1 c2 c3 c4
      dsimp only at c1 c2 c3 c4
      have hbl : Below w.heap.size w wr := HB1.out.trans (HD.out.2.2.mono (by omega))
      have e1 := (hbl.cell (p := ⟨rg, k * 4, none⟩) hrg).trans c1
      have e2 := (hbl.cell (p := ⟨rg, k * 4 + 1, none⟩) hrg).trans c2
      have e3 := (hbl.cell (p := ⟨rg, k * 4 + 2, none⟩) hrg).trans c3
      have e4 := (hbl.cell (p := ⟨rg, k * 4 + 3, none⟩) hrg).trans c4
      have hpart : wr.heap[w.heap.size]? = some (.cells #[.pointer (some ⟨fb, 0, none⟩), .int .i64 b0, .int .i64 b1, .int .i64 b2, .int .i64 b3] 52 (0, 0)) := by rw [HD.out.2.2.block w.heap.size (by omega)]; exact HT.out
      have hD : Aside0 (boxes[k] = (d0, d1, d2, d3)) := ⟨hd⟩
      have HBL := Aside0.mk hbl
      have HPT := Aside0.mk hpart
      have HRG := Aside0.mk hrg
      subst hRA
      clear c1 c2 c3 c4 hrc hd hbl hpart hrg ca h4
      go_wp2_with fail
      obtain ⟨W2, hW2⟩ : ∃ W2 : World, W2 = wr.alloc (.cells #[.int .i64 d0, .int .i64 d1, .int .i64 d2, .int .i64 d3] 50) := ⟨_, rfl⟩
      rw [← hW2]
      have hpw : w.heap.size < wr.heap.size := (Array.getElem?_eq_some_iff.1 HPT.out).1
      have hs2 : W2.heap.size = wr.heap.size + 1 := by rw [hW2]; simp
      have hpt2 : W2.heap[w.heap.size]? = some (.cells #[.pointer (some ⟨fb, 0, none⟩), .int .i64 b0, .int .i64 b1, .int .i64 b2, .int .i64 b3] 52 (0, 0)) := by rw [hW2, Below.heap_alloc _ _ _ hpw]; exact HPT.out
      have hrt2 : W2.heap[wr.heap.size]? = some (.cells #[.int .i64 d0, .int .i64 d1, .int .i64 d2, .int .i64 d3] 50 (0, 0)) := by rw [hW2]; exact heap_alloc_new wr _
      have p1 : W2.cell? ⟨w.heap.size, 1, none⟩ = some (.int .i64 b0) := by rw [Lib.cell_of_heap hpt2]; rfl
      have p2 : W2.cell? ⟨w.heap.size, 2, none⟩ = some (.int .i64 b1) := by rw [Lib.cell_of_heap hpt2]; rfl
      have p3 : W2.cell? ⟨w.heap.size, 3, none⟩ = some (.int .i64 b2) := by rw [Lib.cell_of_heap hpt2]; rfl
      have p4 : W2.cell? ⟨w.heap.size, 4, none⟩ = some (.int .i64 b3) := by rw [Lib.cell_of_heap hpt2]; rfl
      have q1 : W2.cell? ⟨wr.heap.size, 0, none⟩ = some (.int .i64 d0) := by rw [Lib.cell_of_heap hrt2]; rfl
      have q2 : W2.cell? ⟨wr.heap.size, 1, none⟩ = some (.int .i64 d1) := by rw [Lib.cell_of_heap hrt2]; rfl
      have q3 : W2.cell? ⟨wr.heap.size, 2, none⟩ = some (.int .i64 d2) := by rw [Lib.cell_of_heap hrt2]; rfl
      have q4 : W2.cell? ⟨wr.heap.size, 3, none⟩ = some (.int .i64 d3) := by rw [Lib.cell_of_heap hrt2]; rfl
      have HL1 : Aside0 (w.heap.size < W2.heap.size) := ⟨by omega⟩
      have HL2 : Aside0 (wr.heap.size < W2.heap.size) := ⟨by omega⟩
      have HPW := Aside0.mk hpw
      have HS2 := Aside0.mk hs2
      have HW2 := Aside0.mk hW2
      have HDB : Aside0 (BoxIn (d0, d1, d2, d3)) := ⟨by rw [← hD.out]; exact HBS.out _ (List.getElem_mem hkl)⟩
      clear hpw hs2 hpt2 hrt2 hW2 e1 e2 e3 e4
      obtain ⟨⟨m0, m1, m2, m3⟩, hm⟩ : ∃ m, bothB (b0, b1, b2, b3) (d0, d1, d2, d3) = m := ⟨_, rfl⟩
      have HBOTH : Aside0 (∀ W, Calls Try.prog 109 #[boxV (b0, b1, b2, b3), boxV (d0, d1, d2, d3)] W fun e w' => e = .returned (boxV (m0, m1, m2, m3)) ∧ Below W.heap.size W w') := ⟨fun W => by have := both_any (b0, b1, b2, b3) (d0, d1, d2, d3) HBB.out HDB.out W; rwa [hm] at this⟩
      have HM := Aside0.mk hm
      clear hm
      have hcase : m0 ≠ b0 ∨ (b0 = m0 ∧ m1 ≠ b1) ∨ (b0 = m0 ∧ b1 = m1 ∧ m2 ≠ b2) ∨ (b0 = m0 ∧ b1 = m1 ∧ b2 = m2 ∧ m3 ≠ b3) ∨ (b0 = m0 ∧ b1 = m1 ∧ b2 = m2 ∧ b3 = m3) := by omega
      rcases hcase with n0 | ⟨rfl, n0⟩ | ⟨rfl, rfl, n0⟩ | ⟨rfl, rfl, rfl, n0⟩ | ⟨rfl, rfl, rfl, rfl⟩
      all_goals
       try have n1 := beq_eq_false_iff_ne.2 n0
       go_region_held3 (fun w' => (w'.cell? ⟨w.heap.size, 1, none⟩ = some (.int .i64 b0) ∧ w'.cell? ⟨w.heap.size, 2, none⟩ = some (.int .i64 b1) ∧ w'.cell? ⟨w.heap.size, 3, none⟩ = some (.int .i64 b2) ∧ w'.cell? ⟨w.heap.size, 4, none⟩ = some (.int .i64 b3)) ∧ w'.cell? ⟨wr.heap.size, 0, none⟩ = some (.int .i64 d0) ∧ w'.cell? ⟨wr.heap.size, 1, none⟩ = some (.int .i64 d1) ∧ w'.cell? ⟨wr.heap.size, 2, none⟩ = some (.int .i64 d2) ∧ w'.cell? ⟨wr.heap.size, 3, none⟩ = some (.int .i64 d3)) (first
         | exact ⟨⟨p1, p2, p3, p4⟩, q1, q2, q3, q4⟩
         | exact ⟨⟨p1x, p2x, p3x, p4x⟩, q1x, q2x, q3x, q4x⟩
         | (go_simp)) ((go_at_call 109; refine Calls.mono (HBOTH.out _) ?_; rintro e w3 ⟨rfl, hb3⟩; have HB3 := Aside0.mk hb3; have p1x := (hb3.cell (p := ⟨w.heap.size, 1, none⟩) HL1.out).trans p1; have p2x := (hb3.cell (p := ⟨w.heap.size, 2, none⟩) HL1.out).trans p2; have p3x := (hb3.cell (p := ⟨w.heap.size, 3, none⟩) HL1.out).trans p3; have p4x := (hb3.cell (p := ⟨w.heap.size, 4, none⟩) HL1.out).trans p4; have q1x := (hb3.cell (p := ⟨wr.heap.size, 0, none⟩) HL2.out).trans q1; have q2x := (hb3.cell (p := ⟨wr.heap.size, 1, none⟩) HL2.out).trans q2; have q3x := (hb3.cell (p := ⟨wr.heap.size, 2, none⟩) HL2.out).trans q3; have q4x := (hb3.cell (p := ⟨wr.heap.size, 3, none⟩) HL2.out).trans q4; clear hb3; unfold boxV; dsimp only))
      all_goals
        have hb3w : Below wr.heap.size wr w3 := by
          have h1 : Below wr.heap.size wr W2 := by rw [HW2.out]; exact (Below.refl _ _).alloc (Nat.le_refl _) _
          have h2 : Below W2.heap.size W2 w3 := ⟨HB3.out.os, HB3.out.tape, HB3.out.output, HB3.out.size, HB3.out.block⟩
          exact h1.trans (h2.mono (by have := HS2.out; omega))
        have HBW := Aside0.mk hb3w
        clear hb3w
      iterate 4
        · have hno := listL_no (b := (b0, b1, b2, b3)) hkl (by rw [hD.out, HM.out]; intro e; simp only [Prod.mk.injEq] at e; omega)
          have HNO := Aside0.mk hno
          clear hno
          go_wp2_with fail
          refine ⟨⟨k + 1, n, c, A, by push_cast; rfl, by omega, rfl, ⟨by rw [HNO.out]; exact HD.out.1, by rw [HNO.out]; exact pw_own_below HD.out.2.1 HBW.out, HD.out.2.2.trans (HBW.out.mono (by have := HPW.out; omega))⟩⟩, by simp [intOf]; omega⟩
      · have hyes := listL_yes (b := (b0, b1, b2, b3)) hkl (by rw [hD.out, HM.out])
        have HYES := Aside0.mk hyes
        clear hyes
        go_wp2_with (at_builtin; refine print_append_num (w0 := W1) (w.heap.size + 1) rfl (.tmp 24) (.tmp 26) 34 3 .i64 8 rfl Try.underlying34 (by kernel_rfl) (by omega) _ (listL boxes (b0, b1, b2, b3) k) (k : Int) rfl rfl ?k1 (HD.out.2.2.trans (HBW.out.mono (by have := HPW.out; omega))) ?k3 ?k2 ?_; (case k1 => rw [← HD.out.1]; exact pw_own_below HD.out.2.1 HBW.out); (case k3 => have := HPW.out; have := HBW.out.size; omega); (case k2 => have := listL_len boxes (b0, b1, b2, b3) k; omega); intro v1 w1 ho hB hg hat; have HO1 := Aside0.mk ho; have HB4 := Aside0.mk hB; clear ho hB hg hat)
        obtain ⟨A1, c1, rfl⟩ := own_slice HO1.out
        refine ⟨⟨k + 1, (listL boxes (b0, b1, b2, b3) k ++ [(k : Int)]).length, c1, A1, by push_cast; rfl, by omega, rfl, ⟨by rw [HYES.out], by rw [HYES.out]; exact HO1.out, HB4.out⟩⟩, by simp [intOf]; omega⟩
    · have hkl : k = boxes.length := by omega
      subst hkl
      go_wp2_with fail
      obtain ⟨ho1, ho2, ho3⟩ := HD.out
      subst ho1
      go_ret
      exact ⟨⟨A, c, rfl, own_weaken ho2 (by omega)⟩, HB1.out.trans (ho3.mono (by omega))⟩
end Go.Proofs.Ytiehiockjlhbcaa
end
section
/- The reference's CutStuck, walked by hand. -/
namespace Go.Proofs.Ytiehiockjlhbcaa
open Go.RowKit Go.Shelf Go.Proofs.YtiehiockjlhbcaaW.PrintWords Go.Proofs.YtiehiockjlhbcaaW.PrintMore
set_option linter.unusedVariables false
set_option linter.unusedSimpArgs false

theorem add_blk (a : Addr) (n : Nat) : (a.add n).block = a.block := by unfold Addr.add; split <;> rfl
theorem C_grown {w w1 : World} {A : Option Addr} {q : List ByteArray} {row : Option Nat} (h : Kd.C Kd.string w A q.length q) (hg : w.grownBy w1 row) (hn : ∀ a, A = some a → some a.block ≠ row) : Kd.C Kd.string w1 A q.length q := by
  have hr := Kd.reads_of_C (enc := Value.string) (d := ByteArray.empty) (h1 := fun _ => rfl) h
  refine Kd.C_of_reads (d := ByteArray.empty) (enc := Value.string) (h1 := fun _ => rfl) ⟨hr.1, hr.2.1, fun h0 => ?_⟩
  obtain ⟨ad, hA, hc⟩ := hr.2.2 h0
  exact ⟨ad, hA, fun j hj => hg.cell (hc j hj) (by rw [add_blk]; exact hn ad hA)⟩
theorem C_block {w : World} {A : Option Addr} {q : List ByteArray} (h : Kd.C Kd.string w A q.length q) (hq : 0 < q.length) {b : Nat} {t : TypeId} {fr : Nat × Nat} (hb : w.heap[b]? = some (.cells #[] t fr)) : ∀ a, A = some a → a.block < w.heap.size ∧ a.block ≠ b := by
  have hr := Kd.reads_of_C (enc := Value.string) (d := ByteArray.empty) (h1 := fun _ => rfl) h
  obtain ⟨ad, hA, hc⟩ := hr.2.2 hq
  intro a ha
  rw [hA] at ha
  injection ha with ha
  subst ha
  have := hc 0 hq
  refine ⟨?_, fun e => ?_⟩
  · have := World.block_lt_of_cell? w _ this
    rwa [add_blk] at this
  · unfold World.cell? at this
    rw [add_blk, e, hb] at this
    simp at this
/-- What CutStuck hands back: the rooms, and whether there are any. -/
def cutStuckP (p : List ByteArray) : List Int := if planG p then stuckRooms p else []
set_option maxRecDepth 100000 in
set_option maxHeartbeats 8000000 in
theorem specCutStuck_any (A : Option Addr) (cap : Nat) (p : List ByteArray) (hp : SmallP p) (w : World) (hr0 : Kd.C Kd.string w A p.length p) (hc0 : p.length ≤ cap) :
    Calls Try.prog 31 #[.slice A p.length cap] w fun e w' => (∃ A' c', e = .returned (.tuple #[.slice A' (cutStuckP p).length c', .bool (decide (0 < (cutStuckP p).length))]) ∧ w'.ownsRow w.heap.size 3 1 (.slice A' (cutStuckP p).length c') (cutStuckP p).length (nums .i64 (cutStuckP p))) ∧ Below w.heap.size w w' := by
  have HPI := Aside0.mk (fun W (hW : Below w.heap.size w W) => spec_PlanIn.calls A cap p (planG p) W (Kd.C_below hr0 hW) hc0 (by unfold spec_PlanIn.f; rw [if_pos hp]))
  have HB0 : Aside0 (Below w.heap.size w (w.alloc (.cells #[] 3))) := ⟨(Below.refl _ _).alloc (Nat.le_refl _) _⟩
  have HO0 : Aside0 ((w.alloc (.cells #[] 3)).ownsRow w.heap.size 3 1 (.slice (some ⟨w.heap.size, 0, none⟩) 0 0) 0 (nums .i64 [])) := ⟨own_lit w w.heap.size 3 .i64 [] (Nat.le_refl _) (by simp)⟩
  by_cases hpl : planG p = true
  · have hv : cutStuckP p = stuckRooms p := by unfold cutStuckP; rw [if_pos hpl]
    rw [hv, ← outK_rooms p]
    rw [hpl] at HPI
    have f := planFlat hpl
    have hhi := f.high
    have hwi := f.wide
    have hfew := f.few
    have F := Aside0.mk f
    have HST := Aside0.mk (fun W (hW : Below w.heap.size w W) => specStuck_any f 13 (by omega) 0 0 p.length (wdP p) p (by omega) f.whole (planTG hpl) A cap W (Kd.C_below hr0 hW) hc0)
    obtain ⟨kr, hkr⟩ := plan_rooms hpl
    have HRM := Aside0.mk (fun W (hW : Below w.heap.size w W) => L2.spec_l1Rooms.calls kr A cap p _ W (Kd.C_below hr0 hW) hc0 hkr)
    have HWW := Aside0.mk (fun R hR => stuck_whole f 13 0 0 p.length (wdP p) f.whole R hR)
    change Aside0 (∀ R, stuckO p = some R → _) at HWW
    change Aside0 (∀ W (hW : Below w.heap.size w W), Calls Try.prog 61 #[.slice A p.length cap] W fun e w' => StuckE (clP p) (stuckO p) W w' e) at HST
    obtain ⟨o, ho⟩ : ∃ o, stuckO p = o := ⟨_, rfl⟩
    rw [ho] at HWW HST
    rw [ho]
    obtain ⟨cl, hcl⟩ : ∃ cl, clP p = cl := ⟨_, rfl⟩
    obtain ⟨boxes, hbx⟩ : ∃ b, boxesP p = b := ⟨_, rfl⟩
    rw [hcl] at HWW HST F
    rw [hbx] at HRM F hfew
    rw [hbx]
    clear hv hkr hpl f hcl hbx ho hr0
    go_enter Try.func31, Try.ntmps31
    go_wp2_with fail
    refine (HPI.out _ HB0.out).mono ?_
    rintro e w1 ⟨rfl, hb1⟩
    have HB1 := Aside0.mk (HB0.out.trans (hb1.mono HB0.out.size))
    have HO1 := Aside0.mk (pw_own_below HO0.out hb1)
    have HE1 : Aside0 (w1.heap[w.heap.size]? = some (.cells #[] 3 (0, 0))) := ⟨(hb1.block _ (by simp)).trans (heap_alloc_new w _)⟩
    have HS1 : Aside0 (w.heap.size < w1.heap.size) := ⟨by have := hb1.size; simp at this; omega⟩
    clear hb1
    go_wp2_with fail
    refine (HST.out _ HB1.out).mono ?_
    rintro e w2 ⟨q, A2, c2, n2, rfl, rfl, hl2, hC2, hT2, hb2⟩
    have HB2 := Aside0.mk (HB1.out.trans (hb2.mono HB1.out.size))
    have HO2 := Aside0.mk (pw_own_below HO1.out hb2)
    have HE2 : Aside0 (w2.heap[w.heap.size]? = some (.cells #[] 3 (0, 0))) := ⟨(hb2.block _ HS1.out).trans HE1.out⟩
    have HS2 : Aside0 (w.heap.size < w2.heap.size) := ⟨by have := hb2.size; have := HS1.out; omega⟩
    have HC2 := Aside0.mk hC2
    have HT2 := Aside0.mk hT2
    have hq : q.length ≤ 6 ∧ (o = none ↔ q.length = 0) := by
      cases o with
      | none =>
        have hT2 : q = [] := hT2
        rw [hT2]; simp
      | some R =>
        have t : TG q R.2.2.1 R.2.2.2 (gridOf cl R.1 R.2.1) := hT2
        have h1 := t.len
        have h2 := t.high
        exact ⟨by omega, fun h => (by cases h), fun h => (by omega)⟩
    have HQ := Aside0.mk hq.2
    have HBK : Aside0 (0 < q.length → ∀ a, A2 = some a → a.block < w2.heap.size ∧ a.block ≠ w.heap.size) := ⟨fun h => C_block hC2 h HE2.out⟩
    clear hb2 hC2 hT2 hq
    go_wp2_with fail
    go_loopw [4, 6] (fun v i wr => ∃ (k n c : Nat) (A : Option Addr), i = .int .i64 k ∧ k ≤ boxes.length ∧ v = .slice A n c ∧ Aside0 (n = (outK boxes o k).length ∧ wr.ownsRow w.heap.size 3 1 (.slice A n c) n (nums .i64 (outK boxes o k)) ∧ Below w.heap.size w wr ∧ w2.heap.size ≤ wr.heap.size ∧ Kd.C Kd.string wr A2 q.length q ∧ ∀ a, A = some a → a.block = w.heap.size ∨ w2.heap.size ≤ a.block)) (fun _ i _ => boxes.length - (intOf i).toNat)
    case atStart =>
      refine ⟨0, 0, 0, some ⟨w.heap.size, 0, none⟩, rfl, Nat.zero_le _, rfl, ⟨?_, ?_, HB2.out, Nat.le_refl _, HC2.out, fun a ha => ?_⟩⟩
      · cases o <;> rfl
      · have : outK boxes o 0 = [] := by cases o <;> rfl
        rw [this]; exact HO2.out
      · injection ha with ha; exact .inl (by rw [← ha])
    case round =>
      obtain ⟨k, n, c, A1, rfl, hk, rfl, HD⟩ := hrel
      go_wp2_with fail
      refine (HRM.out _ HD.out.2.2.1).mono ?_
      rintro e w3 ⟨rfl, hb3⟩
      have HB3 := Aside0.mk hb3
      clear hb3
      by_cases hlt : (k : Int) < (boxes.length : Int)
      · have hkl : k < boxes.length := by omega
        cases o with
        | none =>
          have hz : ¬ 0 < q.length := by have := HQ.out.1 rfl; omega
          go_wp2_with fail
          refine ⟨⟨k + 1, n, c, A1, by push_cast; rfl, by omega, rfl, ⟨HD.out.1, pw_own_below HD.out.2.1 HB3.out, HD.out.2.2.1.trans (HB3.out.mono HD.out.2.2.1.size), Nat.le_trans HD.out.2.2.2.1 HB3.out.size, Kd.C_below HD.out.2.2.2.2.1 HB3.out, HD.out.2.2.2.2.2⟩⟩, by simp [intOf]; omega⟩
        | some R =>
          have t : TG q R.2.2.1 R.2.2.2 (gridOf cl R.1 R.2.1) := HT2.out
          have hql : 0 < q.length := by have h1 := t.len; have h2 := t.high; omega
          obtain ⟨m, j, hj, hm, hmm⟩ := cells_part F.out (HWW.out R rfl) t k hkl
          have HCL := Aside0.mk (L2.spec_l1Cells.calls j A2 c2 q (k : Int) m w3 (Kd.C_below HD.out.2.2.2.2.1 HB3.out) hl2 hj)
          have HMM := Aside0.mk hmm
          clear hj hmm t
          by_cases hm0 : 0 < m
          · have hyes := listL_yes (b := boxR R) hkl (HMM.out.1 hm0)
            have HYES := Aside0.mk hyes
            clear hyes
            go_wp2_with (first | (go_at_call 62; refine HCL.out.mono ?_; rintro e w4 ⟨rfl, nd, rfl⟩; have HB4 : Aside0 (Below w.heap.size w (w3.drewN nd)) := ⟨pw_below_drewN (HD.out.2.2.1.trans (HB3.out.mono HD.out.2.2.1.size)) _⟩) | (at_builtin; refine print_append_num (w0 := w) w.heap.size rfl (.tmp 29) (.tmp 31) 34 3 .i64 8 rfl Try.underlying34 (by kernel_rfl) (by omega) _ (outK boxes (some R) k) (k : Int) rfl rfl ?k1 ?k4 ?k3 ?k2 ?_; (case k1 => rw [← HD.out.1]; exact pw_own_below (pw_own_below HD.out.2.1 HB3.out) (pw_below_drewN (Below.refl _ _) _)); (case k4 => exact HB4.out); (case k3 => exact HB4.out.size); (case k2 => have := outK_len boxes (some R) k; omega); intro v1 w5 ho hB hg hat; have HO5 := Aside0.mk ho; have HB5 := Aside0.mk hB; have HG5 := Aside0.mk hg; have HAT := Aside0.mk hat; clear ho hB hg hat))
            obtain ⟨A5, c5, rfl⟩ := own_slice HO5.out
            have hrow : outK boxes (some R) (k + 1) = outK boxes (some R) k ++ [(k : Int)] := HYES.out
            have hsz : w2.heap.size ≤ (w3.drewN nd).heap.size := Nat.le_trans HD.out.2.2.2.1 HB3.out.size
            refine ⟨⟨k + 1, (outK boxes (some R) k ++ [(k : Int)]).length, c5, A5, by push_cast; rfl, by omega, rfl, ⟨by rw [hrow], by rw [hrow]; exact HO5.out, HB5.out, Nat.le_trans hsz HG5.out.size, ?_, ?_⟩⟩, by simp [intOf]; omega⟩
            · refine C_grown (Kd.C_below (Kd.C_below HD.out.2.2.2.2.1 HB3.out) (pw_below_drewN (Below.refl _ _) nd)) HG5.out ?_
              intro a ha e
              have h1 := HBK.out hql a ha
              cases A1 with
              | none => cases e
              | some a1 =>
                have e1 : a.block = a1.block := Option.some.inj e
                rcases HD.out.2.2.2.2.2 a1 rfl with h2 | h2 <;> omega
            · intro a ha
              subst ha
              rcases HAT.out with h | ⟨b, h, hb⟩
              · cases A1 with
                | none => cases h
                | some a1 =>
                  have e1 : a.block = a1.block := Option.some.inj h
                  rw [e1]; exact HD.out.2.2.2.2.2 a1 rfl
              · have e1 : a.block = b := Option.some.inj h
                right; omega
          · have hno := listL_no (b := boxR R) hkl (fun e => hm0 (HMM.out.2 e))
            have HNO := Aside0.mk hno
            clear hno
            go_wp2_with (first | (go_at_call 62; refine HCL.out.mono ?_; rintro e w4 ⟨rfl, nd, rfl⟩))
            have HBD : Below wr.heap.size wr (w3.drewN nd) := pw_below_drewN HB3.out _
            refine ⟨⟨k + 1, n, c, A1, by push_cast; rfl, by omega, rfl, ⟨by show n = (listL boxes (boxR R) (k + 1)).length; rw [HNO.out]; exact HD.out.1, by show World.ownsRow _ _ _ _ _ _ (nums .i64 (listL boxes (boxR R) (k + 1))); rw [HNO.out]; exact pw_own_below HD.out.2.1 HBD, HD.out.2.2.1.trans (HBD.mono HD.out.2.2.1.size), Nat.le_trans HD.out.2.2.2.1 HBD.size, Kd.C_below HD.out.2.2.2.2.1 HBD, HD.out.2.2.2.2.2⟩⟩, by simp [intOf]; omega⟩
      · have hke : k = boxes.length := by omega
        subst hke
        go_wp2_with fail
        go_ret2
        obtain ⟨h1, h2, h3, _⟩ := HD.out
        subst h1
        exact ⟨⟨A1, c, rfl, pw_own_below h2 HB3.out⟩, h3.trans (HB3.out.mono h3.size)⟩
  · have hplf : planG p = false := by simpa using hpl
    have hv : cutStuckP p = [] := by unfold cutStuckP; rw [if_neg hpl]
    rw [hv]
    rw [hplf] at HPI
    clear hv hpl hplf hr0
    go_enter Try.func31, Try.ntmps31
    go_wp2_with fail
    refine (HPI.out _ HB0.out).mono ?_
    rintro e w1 ⟨rfl, hb1⟩
    have HB1 := Aside0.mk (HB0.out.trans (hb1.mono HB0.out.size))
    have HO1 := Aside0.mk (pw_own_below HO0.out hb1)
    clear hb1
    go_wp2_with fail
    go_ret2
    exact ⟨⟨_, _, rfl, HO1.out⟩, HB1.out⟩
end Go.Proofs.Ytiehiockjlhbcaa
end
section
/- The program's CutStuck, and the names that a printed law takes. -/
namespace Go.Proofs.Ytiehiockjlhbcaa
open Go.RowKit Go.Shelf Go.Proofs.YtiehiockjlhbcaaW.PrintWords Go.Proofs.YtiehiockjlhbcaaW.PrintMore
set_option linter.unusedVariables false
set_option linter.unusedSimpArgs false

/-- A part of whole rooms has a room. -/
theorem list_pos {cl : Nat → Nat → Int} {boxes : List Box} {h wd r c ph pw : Nat} (f : Flat cl boxes h wd) (hw : Whole cl h wd r c ph pw) : 0 < (listL boxes (natB r c ph pw) boxes.length).length := by
  have hs := hw.some
  have := (listL_iff f hw (cl r c)).2 ⟨r, c, ⟨⟨Nat.le_refl _, by omega⟩, Nat.le_refl _, by omega⟩, rfl⟩
  exact List.length_pos_of_mem this
set_option maxRecDepth 100000 in
set_option maxHeartbeats 8000000 in
theorem cutStuck_any (A : Option Addr) (cap : Nat) (p : List ByteArray) (hp : SmallP p) (w : World) (hr0 : Kd.C Kd.string w A p.length p) (hc0 : p.length ≤ cap) :
    Calls Try.prog 30 #[.slice A p.length cap] w fun e w' => (∃ A' c', e = .returned (.tuple #[.slice A' (cutStuckP p).length c', .bool (decide (0 < (cutStuckP p).length))]) ∧ w'.ownsRow w.heap.size 3 1 (.slice A' (cutStuckP p).length c') (cutStuckP p).length (nums .i64 (cutStuckP p))) ∧ Below w.heap.size w w' := by
  have HFL := floorOf_any A cap p hp.1 hp.2 w hr0 hc0
  clear hr0
  go_enter Try.func30, Try.ntmps30
  go_wp2_with fail
  refine HFL.mono ?_
  rintro e w1 ⟨hb1, ⟨hpl, fb, base, rfl, hbase, hfl⟩ | ⟨hpl, o, rfl⟩⟩
  · have HB1 := Aside0.mk hb1
    have F := Aside0.mk (planFlat hpl)
    have hR := hfl.reads
    have hh := (planFlat hpl).high
    have hw := (planFlat hpl).wide
    have hv : cutStuckP p = stuckRooms p := by unfold cutStuckP; rw [if_pos hpl]
    have HWH := Aside0.mk (fun W (hW : Below w1.heap.size w1 W) => whole_any fb p.length (wdP p) (clP p) (boxesP p) W (hR.below hW) (by omega) (by omega))
    have HSK := Aside0.mk (fun W (hW : Below w1.heap.size w1 W) => stuck_any fb p.length (wdP p) (clP p) (boxesP p) hh.2 hw.2 F.out.boxIn F.out.few 13 (by omega) 0 0 p.length (wdP p) (by omega) (by omega) (by omega) W (hR.below hW))
    have HRR := Aside0.mk hR
    have hwh := stuck_whole F.out 13 0 0 p.length (wdP p) F.out.whole
    cases hRo : stuckL (clP p) (boxesP p) 13 (0, 0, p.length, wdP p) with
    | none =>
      have hval : stuckRooms p = [] := by unfold stuckRooms stuckO; rw [hRo]
      rw [hval] at hv
      have HV := Aside0.mk hv
      rw [hRo] at HSK
      clear hb1 hpl hfl hR hv hwh hRo hval
      go_wp2_with fail
      refine (HWH.out _ (Below.refl _ _)).mono ?_
      rintro e w2 ⟨rfl, hb2⟩
      have HB2 := Aside0.mk hb2
      clear hb2
      go_wp2_with fail
      refine (HSK.out _ HB2.out).mono ?_
      rintro e w3 ⟨rfl, hb3⟩
      have HB3 := Aside0.mk (HB2.out.trans (hb3.mono HB2.out.size))
      clear hb3
      simp only [stuckV, stuckC, noPart, Option.isSome_none]
      go_wp2_with fail
      go_ret2
      rw [HV.out]
      exact ⟨⟨_, _, rfl, World.ownsRow_nil _ _ _ _⟩, HB1.out.trans ((HB3.out.alloc HB3.out.size _).mono HB1.out.size)⟩
    | some R =>
      have hwR := hwh R hRo
      have hrow := hwR.row
      have hcol := hwR.col
      have hval : stuckRooms p = listL (boxesP p) (boxR R) (boxesP p).length := by unfold stuckRooms stuckO; rw [hRo]
      have hpos : 0 < (listL (boxesP p) (boxR R) (boxesP p).length).length := list_pos F.out hwR
      rw [hval] at hv
      have HLI := Aside0.mk (fun W (hW : Below w1.heap.size w1 W) => list_own fb p.length (wdP p) (clP p) (boxesP p) W (HRR.out.below hW) (boxR R) (boxIn_nat (by omega) (by omega) (by omega) (by omega)) F.out.boxIn (by have := F.out.few; omega))
      rw [hRo] at HSK
      obtain ⟨L, hL⟩ : ∃ L, listL (boxesP p) (boxR R) (boxesP p).length = L := ⟨_, rfl⟩
      rw [hL] at HLI hpos hv
      have HV := Aside0.mk hv
      have HP := Aside0.mk (decide_eq_true hpos)
      clear hb1 hpl hfl hR hv hwh hRo hval hwR hrow hcol hL hpos
      go_wp2_with fail
      refine (HWH.out _ (Below.refl _ _)).mono ?_
      rintro e w2 ⟨rfl, hb2⟩
      have HB2 := Aside0.mk hb2
      clear hb2
      go_wp2_with fail
      refine (HSK.out _ HB2.out).mono ?_
      rintro e w3 ⟨rfl, hb3⟩
      have HB3 := Aside0.mk (HB2.out.trans (hb3.mono HB2.out.size))
      clear hb3
      simp only [stuckV, stuckC, partCells, Option.isSome_some]
      go_wp2_with fail
      unfold partV at HLI
      have hb6 := HB3.out.alloc HB3.out.size (.cells #[.pointer (some ⟨fb, 0, none⟩), .int .i64 (boxR R).1, .int .i64 (boxR R).2.1, .int .i64 (boxR R).2.2.1, .int .i64 (boxR R).2.2.2] 52)
      refine (HLI.out _ hb6).mono ?_
      rintro e w7 ⟨⟨A2, c2, rfl, ho7⟩, hb7⟩
      have HB7 := Aside0.mk (hb6.trans (hb7.mono hb6.size))
      have HO7 := Aside0.mk ho7
      have HS7 : Aside0 (w.heap.size ≤ (w3.alloc (.cells #[.pointer (some ⟨fb, 0, none⟩), .int .i64 (boxR R).1, .int .i64 (boxR R).2.1, .int .i64 (boxR R).2.2.1, .int .i64 (boxR R).2.2.2] 52)).heap.size) := ⟨Nat.le_trans HB1.out.size hb6.size⟩
      clear hb6 hb7 ho7
      go_wp2_with fail
      go_ret2
      rw [HV.out, HP.out]
      exact ⟨⟨_, _, rfl, own_weaken HO7.out HS7.out⟩, HB1.out.trans (HB7.out.mono HB1.out.size)⟩
  · have HB1 := Aside0.mk hb1
    have hv : cutStuckP p = [] := by unfold cutStuckP; rw [hpl]; rfl
    have HV := Aside0.mk hv
    clear hb1 hpl hv
    go_wp2_with fail
    go_ret2
    rw [HV.out]
    exact ⟨⟨_, _, rfl, World.ownsRow_nil _ _ _ _⟩, HB1.out⟩

/-! The names that a printed law takes. -/
def cutStuckV (p : List ByteArray) : List Int × Bool := (cutStuckP p, decide (0 < (cutStuckP p).length))
def impl_CutStuck.f (l0 : List ByteArray) : Option (List Int × Bool) := if SmallP l0 then some (cutStuckV l0) else none
theorem impl_CutStuck.calls (A0 : Option Addr) (c0 : Nat) (l0 : List ByteArray) (r1 : List Int) (r2 : Bool) (w : World) (hr0 : Kd.C Kd.string w A0 l0.length l0) (hc0 : l0.length ≤ c0) (h : impl_CutStuck.f l0 = some (r1, r2)) :
    Calls Try.prog 30 #[.slice A0 l0.length c0] w fun e w' => ∃ v0_ : Value, e = .returned (.tuple #[v0_, .bool r2]) ∧ Kd.R (Kd.int .i64) 3 w' w.heap.size (fun _ => True) v0_ r1 ∧ Below w.heap.size w w' := by
  unfold impl_CutStuck.f at h
  split at h
  · rename_i hb
    injection h with h
    unfold cutStuckV at h
    injection h with h1 h2
    refine (cutStuck_any A0 c0 l0 hb w hr0 hc0).mono fun e w' ⟨⟨A', c', he, ho⟩, hbw⟩ => ?_
    rw [h1] at he ho
    rw [h1] at h2
    rw [h2] at he
    exact ⟨_, he, Kd.R_of_own ho (fun _ _ => trivial), hbw⟩
  · cases h
def spec_CutStuck.f (l0 : List ByteArray) : Option (List Int × Bool) := if SmallP l0 then some (cutStuckV l0) else none
theorem spec_CutStuck.calls (A0 : Option Addr) (c0 : Nat) (l0 : List ByteArray) (r1 : List Int) (r2 : Bool) (w : World) (hr0 : Kd.C Kd.string w A0 l0.length l0) (hc0 : l0.length ≤ c0) (h : spec_CutStuck.f l0 = some (r1, r2)) :
    Calls Try.prog 31 #[.slice A0 l0.length c0] w fun e w' => ∃ v0_ : Value, e = .returned (.tuple #[v0_, .bool r2]) ∧ Kd.R (Kd.int .i64) 3 w' w.heap.size (fun _ => True) v0_ r1 ∧ Below w.heap.size w w' := by
  unfold spec_CutStuck.f at h
  split at h
  · rename_i hb
    injection h with h
    unfold cutStuckV at h
    injection h with h1 h2
    refine (specCutStuck_any A0 c0 l0 hb w hr0 hc0).mono fun e w' ⟨⟨A', c', he, ho⟩, hbw⟩ => ?_
    rw [h1] at he ho
    rw [h1] at h2
    rw [h2] at he
    exact ⟨_, he, Kd.R_of_own ho (fun _ _ => trivial), hbw⟩
  · cases h
end Go.Proofs.Ytiehiockjlhbcaa
end
