/- Texts of this claim's, joined by a program: AFloorR, AList, APart. -/
import Derived.Test.YtbpppchkgjcahaaKAShelfM
section
namespace Go.Proofs.Ytbpppchkgjcahaa
open Go.RowKit Go.Shelf Go.Proofs.YtbpppchkgjcahaaW.PrintWords Go.Proofs.YtbpppchkgjcahaaW.PrintMore
set_option linter.unusedVariables false
def FloorR (w : World) (fb h wd : Nat) (cl : Nat → Nat → Int) (boxes : List Box) : Prop := ∃ (g : Nat) (rb : Nat → Nat) (RA : Option Addr) (rc : Nat), fb < w.heap.size ∧ g < w.heap.size ∧
  w.cell? ⟨fb, 0, none⟩ = some (.slice (some ⟨g, 0, none⟩) h h) ∧ w.cell? ⟨fb, 1, none⟩ = some (.slice RA boxes.length rc) ∧
  (∀ r, r < h → rb r < w.heap.size ∧ w.cell? ⟨g, r, none⟩ = some (.slice (some ⟨rb r, 0, none⟩) wd wd) ∧ ∀ c, c < wd → w.cell? ⟨rb r, c, none⟩ = some (.int .i64 (cl r c))) ∧
  (boxes ≠ [] → ∃ rg, RA = some ⟨rg, 0, none⟩ ∧ rg < w.heap.size ∧ ∀ k (hk : k < boxes.length), w.cell? ⟨rg, k * 4, none⟩ = some (.int .i64 boxes[k].1) ∧ w.cell? ⟨rg, k * 4 + 1, none⟩ = some (.int .i64 boxes[k].2.1) ∧ w.cell? ⟨rg, k * 4 + 2, none⟩ = some (.int .i64 boxes[k].2.2.1) ∧ w.cell? ⟨rg, k * 4 + 3, none⟩ = some (.int .i64 boxes[k].2.2.2))
theorem FloorR.below {w w' : World} {fb h wd : Nat} {cl : Nat → Nat → Int} {boxes : List Box} (hf : FloorR w fb h wd cl boxes) (hb : Below w.heap.size w w') : FloorR w' fb h wd cl boxes := by
  obtain ⟨g, rb, RA, rc, h1, h2, h3, h4, h5, h6⟩ := hf
  have hs := hb.size
  refine ⟨g, rb, RA, rc, by omega, by omega, by rw [hb.cell h1]; exact h3, by rw [hb.cell h1]; exact h4, fun r hr => ?_, fun hne => ?_⟩
  · obtain ⟨a, b, c⟩ := h5 r hr
    exact ⟨by omega, by rw [hb.cell h2]; exact b, fun k hk => by rw [hb.cell a]; exact c k hk⟩
  · obtain ⟨rg, a, b, c⟩ := h6 hne
    refine ⟨rg, a, by omega, fun k hk => ?_⟩
    obtain ⟨c1, c2, c3, c4⟩ := c k hk
    exact ⟨by rw [hb.cell b]; exact c1, by rw [hb.cell b]; exact c2, by rw [hb.cell b]; exact c3, by rw [hb.cell b]; exact c4⟩
def sidesL (cl : Nat → Nat → Int) (level : Bool) (line at_ : Nat) : Int × Int := if level then (cl (line - 1) at_, cl line at_) else (cl at_ (line - 1), cl at_ line)
set_option maxRecDepth 100000 in
set_option maxHeartbeats 8000000 in
theorem sides_any (fb h wd : Nat) (cl : Nat → Nat → Int) (boxes : List Box) (w : World) (hf : FloorR w fb h wd cl boxes) (hh : h ≤ 1000) (hwd : wd ≤ 1000) (level : Bool) (line at_ : Nat) (hl : 1 ≤ line) (hin : if level then line < h ∧ at_ < wd else line < wd ∧ at_ < h) :
    Calls Try.prog 136 #[.pointer (some ⟨fb, 0, none⟩), .bool level, .int .i64 line, .int .i64 at_] w fun e w' => e = .returned (.tuple #[.int .i64 (sidesL cl level line at_).1, .int .i64 (sidesL cl level line at_).2]) ∧ Below w.heap.size w w' := by
  obtain ⟨g, rb, RA, rc, h1, h2, h3, h4, h5, h6⟩ := hf
  cases level with
  | true =>
    simp only [if_true] at hin
    obtain ⟨a1, a2, a3⟩ := h5 (line - 1) (by omega)
    obtain ⟨b1, b2, b3⟩ := h5 line hin.1
    have a4 := a3 at_ hin.2
    have b4 := b3 at_ hin.2
    have e1 : ((line : Int) - 1) = ((line - 1 : Nat) : Int) := by omega
    go_enter Try.func136, Try.ntmps136
    go_wp2
    go_quiet (fail)
    go_wp2
    go_ret2
    exact ⟨rfl, by repeat (first | exact Below.refl _ _ | apply pw_below_drewN | apply below_alloc)⟩
  | false =>
    simp only [Bool.false_eq_true, if_false] at hin
    obtain ⟨a1, a2, a3⟩ := h5 at_ hin.2
    have a4 := a3 (line - 1) (by omega)
    have b4 := a3 line hin.1
    have e1 : ((line : Int) - 1) = ((line - 1 : Nat) : Int) := by omega
    go_enter Try.func136, Try.ntmps136
    go_wp2
    go_quiet (fail)
    go_wp2
    go_ret2
    exact ⟨rfl, by repeat (first | exact Below.refl _ _ | apply pw_below_drewN | apply below_alloc)⟩
set_option maxRecDepth 100000 in
set_option maxHeartbeats 8000000 in
theorem differ_any (fb h wd : Nat) (cl : Nat → Nat → Int) (boxes : List Box) (w : World) (hf : FloorR w fb h wd cl boxes) (hh : h ≤ 1000) (hwd : wd ≤ 1000) (level : Bool) (line at_ : Nat) (hl : 1 ≤ line) (hin : if level then line < h ∧ at_ < wd else line < wd ∧ at_ < h) :
    Calls Try.prog 150 #[.pointer (some ⟨fb, 0, none⟩), .bool level, .int .i64 line, .int .i64 at_] w fun e w' => e = .returned (.bool ((sidesL cl level line at_).1 != (sidesL cl level line at_).2)) ∧ Below w.heap.size w w' := by
  go_enter Try.func150, Try.ntmps150
  go_wp2_with (
    go_at_call 136
    refine (sides_any fb h wd cl boxes w hf hh hwd level line at_ hl hin).mono ?_
    rintro _ w1 ⟨rfl, hb⟩)
  go_ret
  exact ⟨rfl, hb⟩
def partV (fb : Nat) (b : Box) : Value := .agg #[.pointer (some ⟨fb, 0, none⟩), .int .i64 b.1, .int .i64 b.2.1, .int .i64 b.2.2.1, .int .i64 b.2.2.2]
def throughL (cl : Nat → Nat → Int) (level : Bool) (line from_ : Nat) : Nat → Bool
  | 0 => true
  | n + 1 => throughL cl level line from_ n && ((sidesL cl level line (from_ + n)).1 != (sidesL cl level line (from_ + n)).2)
theorem throughL_no {cl : Nat → Nat → Int} {level : Bool} {line from_ k : Nat} (h : ((sidesL cl level line (from_ + k)).1 != (sidesL cl level line (from_ + k)).2) = false) : ∀ n, k < n → throughL cl level line from_ n = false := by
  intro n hn
  induction n with
  | zero => omega
  | succ n ih =>
    unfold throughL
    by_cases hk : k = n
    · subst hk; rw [h, Bool.and_false]
    · rw [ih (by omega), Bool.false_and]
def natB (r c h w : Nat) : Box := ((r : Int), (c : Int), (h : Int), (w : Int))
set_option maxRecDepth 100000 in
set_option maxHeartbeats 8000000 in
theorem through_any (fb h wd : Nat) (cl : Nat → Nat → Int) (boxes : List Box) (w : World) (hf : FloorR w fb h wd cl boxes) (hh : h ≤ 1000) (hwd : wd ≤ 1000) (r c ph pw : Nat) (hr : r + ph ≤ h) (hc : c + pw ≤ wd) (level : Bool) (line : Nat) (hl : 1 ≤ line) (hin : if level then line < h else line < wd) :
    Calls Try.prog 213 #[partV fb (natB r c ph pw), .bool level, .int .i64 line] w fun e w' => e = .returned (.bool (throughL cl level line (if level then c else r) (if level then pw else ph))) ∧ Below w.heap.size w w' := by
  unfold partV natB
  dsimp only
  have HF := Aside0.mk hf
  clear hf
  cases level with
  | true =>
    simp only [if_true] at hin ⊢
    go_enter Try.func213, Try.ntmps213
    go_wp2
    go_quiet (fail)
    go_wp2
    go_quiet (fail)
    go_wp2
    go_loopw [9] (fun i wr => ∃ k : Nat, i = .int .i64 ((c + k : Nat) : Int) ∧ k ≤ pw ∧ throughL cl true line c k = true ∧ Aside0 (Below w.heap.size w wr ∧ w.heap.size < wr.heap.size) ∧ wr.cell? ⟨w.heap.size, 0, none⟩ = some (.pointer (some ⟨fb, 0, none⟩))) (fun i _ => c + pw - (intOf i).toNat)
    case atStart =>
      refine ⟨0, rfl, Nat.zero_le _, rfl, ⟨?_, ?_⟩, ?_⟩
      · repeat (first | exact Below.refl _ _ | apply pw_below_drewN | apply below_alloc)
      · show w.heap.size < (w.alloc _).heap.size
        simp
      · show (w.alloc _).cell? _ = _
        rw [Lib.cell_of_heap (heap_alloc_new w _)]
        rfl
    case round =>
      obtain ⟨k, rfl, hk, ht, HB, hp⟩ := hrel
      have HT := Aside0.mk ht
      clear ht
      by_cases hlt : k < pw
      · have hg : ((c + k : Nat) : Int) < (c : Int) + (pw : Int) := by omega
        cases hd : ((sidesL cl true line (c + k)).1 != (sidesL cl true line (c + k)).2) with
        | true =>
          go_wp2_with (
            go_at_call 150
            refine (differ_any fb h wd cl boxes wr (HF.out.below HB.out.1) hh hwd true line (c + k) hl ⟨hin, by omega⟩).mono ?_
            rintro e w2 ⟨rfl, hb2⟩
            rw [hd])
          refine ⟨⟨k + 1, by push_cast; rw [Int.add_assoc], by omega, ?_, ⟨HB.out.1.trans (hb2.mono HB.out.1.size), Nat.lt_of_lt_of_le HB.out.2 hb2.size⟩, (hb2.cell (p := ⟨w.heap.size, 0, none⟩) HB.out.2).trans hp⟩, by simp [intOf]; omega⟩
          unfold throughL
          rw [HT.out, hd]; rfl
        | false =>
          go_wp2_with (
            go_at_call 150
            refine (differ_any fb h wd cl boxes wr (HF.out.below HB.out.1) hh hwd true line (c + k) hl ⟨hin, by omega⟩).mono ?_
            rintro e w2 ⟨rfl, hb2⟩
            rw [hd])
          rw [throughL_no hd _ hlt]
          go_ret
          exact ⟨rfl, HB.out.1.trans (hb2.mono HB.out.1.size)⟩
      · have hg : ¬ ((c + k : Nat) : Int) < (c : Int) + (pw : Int) := by omega
        have hkn : k = pw := by omega
        rw [hkn] at HT
        go_wp2
        rw [HT.out]
        go_ret
        exact ⟨rfl, HB.out.1⟩
  | false =>
    simp only [Bool.false_eq_true, if_false] at hin ⊢
    go_enter Try.func213, Try.ntmps213
    go_wp2
    go_quiet (fail)
    go_wp2
    go_loopw [9] (fun i wr => ∃ k : Nat, i = .int .i64 ((r + k : Nat) : Int) ∧ k ≤ ph ∧ throughL cl false line r k = true ∧ Aside0 (Below w.heap.size w wr ∧ w.heap.size < wr.heap.size) ∧ wr.cell? ⟨w.heap.size, 0, none⟩ = some (.pointer (some ⟨fb, 0, none⟩))) (fun i _ => r + ph - (intOf i).toNat)
    case atStart =>
      refine ⟨0, rfl, Nat.zero_le _, rfl, ⟨?_, ?_⟩, ?_⟩
      · repeat (first | exact Below.refl _ _ | apply pw_below_drewN | apply below_alloc)
      · show w.heap.size < (w.alloc _).heap.size
        simp
      · show (w.alloc _).cell? _ = _
        rw [Lib.cell_of_heap (heap_alloc_new w _)]
        rfl
    case round =>
      obtain ⟨k, rfl, hk, ht, HB, hp⟩ := hrel
      have HT := Aside0.mk ht
      clear ht
      by_cases hlt : k < ph
      · have hg : ((r + k : Nat) : Int) < (r : Int) + (ph : Int) := by omega
        cases hd : ((sidesL cl false line (r + k)).1 != (sidesL cl false line (r + k)).2) with
        | true =>
          go_wp2_with (
            go_at_call 150
            refine (differ_any fb h wd cl boxes wr (HF.out.below HB.out.1) hh hwd false line (r + k) hl ⟨hin, by omega⟩).mono ?_
            rintro e w2 ⟨rfl, hb2⟩
            rw [hd])
          refine ⟨⟨k + 1, by push_cast; rw [Int.add_assoc], by omega, ?_, ⟨HB.out.1.trans (hb2.mono HB.out.1.size), Nat.lt_of_lt_of_le HB.out.2 hb2.size⟩, (hb2.cell (p := ⟨w.heap.size, 0, none⟩) HB.out.2).trans hp⟩, by simp [intOf]; omega⟩
          unfold throughL
          rw [HT.out, hd]; rfl
        | false =>
          go_wp2_with (
            go_at_call 150
            refine (differ_any fb h wd cl boxes wr (HF.out.below HB.out.1) hh hwd false line (r + k) hl ⟨hin, by omega⟩).mono ?_
            rintro e w2 ⟨rfl, hb2⟩
            rw [hd])
          rw [throughL_no hd _ hlt]
          go_ret
          exact ⟨rfl, HB.out.1.trans (hb2.mono HB.out.1.size)⟩
      · have hg : ¬ ((r + k : Nat) : Int) < (r : Int) + (ph : Int) := by omega
        have hkn : k = ph := by omega
        rw [hkn] at HT
        go_wp2
        rw [HT.out]
        go_ret
        exact ⟨rfl, HB.out.1⟩
end Go.Proofs.Ytbpppchkgjcahaa
end
section
namespace Go.Proofs.Ytbpppchkgjcahaa
open Go.RowKit Go.Shelf Go.Proofs.YtbpppchkgjcahaaW.PrintWords Go.Proofs.YtbpppchkgjcahaaW.PrintMore
set_option linter.unusedVariables false
theorem own_cap {W : World} {base n c : Nat} {e : TypeId} {size : Nat} {A : Option Addr} {xs : List Value} (h : W.ownsRow base e size (.slice A n c) n xs) : n ≤ c := by
  rcases h.2 with ⟨e1, e2⟩ | ⟨g', cap, cur, e, hg, hh, hc, _⟩
  · omega
  · injection e with _ _ e3
    omega
def listL (boxes : List Box) (b : Box) : Nat → List Int
  | 0 => []
  | n + 1 => listL boxes b n ++ if bothB b (boxes.getD n (0, 0, 0, 0)) = b then [(n : Int)] else []
theorem listL_len (boxes : List Box) (b : Box) (n : Nat) : (listL boxes b n).length ≤ n := by
  induction n with
  | zero => exact Nat.le_refl _
  | succ n ih =>
    unfold listL
    rw [List.length_append]
    split <;> simp <;> omega
theorem listL_no {boxes : List Box} {b : Box} {k : Nat} (hk : k < boxes.length) (h : bothB b boxes[k] ≠ b) : listL boxes b (k + 1) = listL boxes b k := by
  show listL boxes b k ++ _ = _
  rw [List.getD_eq_getElem?_getD, List.getElem?_eq_getElem hk, Option.getD_some, if_neg h, List.append_nil]
theorem listL_yes {boxes : List Box} {b : Box} {k : Nat} (hk : k < boxes.length) (h : bothB b boxes[k] = b) : listL boxes b (k + 1) = listL boxes b k ++ [(k : Int)] := by
  show listL boxes b k ++ _ = _
  rw [List.getD_eq_getElem?_getD, List.getElem?_eq_getElem hk, Option.getD_some, if_pos h]
set_option maxRecDepth 100000 in
set_option maxHeartbeats 16000000 in
theorem list_any (fb h wd : Nat) (cl : Nat → Nat → Int) (boxes : List Box) (w : World) (hf : FloorR w fb h wd cl boxes) (b : Box) (hb : BoxIn b) (hbs : ∀ x ∈ boxes, BoxIn x) (hn : boxes.length ≤ 1000) :
    Calls Try.prog 122 #[partV fb b] w fun e w' => (∃ (A : Option Addr) (c : Nat), e = .returned (.slice A (listL boxes b boxes.length).length c) ∧ (listL boxes b boxes.length).length ≤ c ∧ Kd.C (Kd.int .i64) w' A (listL boxes b boxes.length).length (listL boxes b boxes.length)) ∧ Below w.heap.size w w' := by
  obtain ⟨b0, b1, b2, b3⟩ := b
  unfold partV
  dsimp only
  have HF := Aside0.mk hf
  have HBB := Aside0.mk hb
  have HBS := Aside0.mk hbs
  obtain ⟨g, rb, RA, rc, h1, h2, h3, h4, h5, h6⟩ := hf
  have HH1 := Aside0.mk h1
  have HH6 := Aside0.mk h6
  obtain ⟨W1, hW1⟩ : ∃ W1 : World, W1 = w.alloc (.cells #[.pointer (some ⟨fb, 0, none⟩), .int .i64 b0, .int .i64 b1, .int .i64 b2, .int .i64 b3] 75) := ⟨_, rfl⟩
  have ca : (w.alloc (.cells #[.pointer (some ⟨fb, 0, none⟩), .int .i64 b0, .int .i64 b1, .int .i64 b2, .int .i64 b3] 75)).cell? ⟨fb, 1, none⟩ = some (.slice RA boxes.length rc) := (World.cell?_of_block (Below.heap_alloc _ _ _ h1)).trans h4
  have HS1 : Aside0 (W1.heap.size = w.heap.size + 1) := ⟨by rw [hW1]; simp⟩
  have HB1 : Aside0 (Below w.heap.size w W1) := ⟨by rw [hW1]; exact (Below.refl _ _).alloc (Nat.le_refl _) _⟩
  have HT : Aside0 (W1.heap[w.heap.size]? = some (.cells #[.pointer (some ⟨fb, 0, none⟩), .int .i64 b0, .int .i64 b1, .int .i64 b2, .int .i64 b3] 75 (0, 0))) := ⟨by rw [hW1]; exact heap_alloc_new w _⟩
  have HW1 := Aside0.mk hW1
  clear h5 h6 h1 h2 h3 hb hbs hW1
  go_enter Try.func122, Try.ntmps122
  go_wp2_with fail
  rw [← HW1.out]
  go_loopw [3, 12] (fun v i wr => ∃ (k n c : Nat) (A : Option Addr), i = .int .i64 k ∧ k ≤ boxes.length ∧ v = .slice A n c ∧ Aside0 (n = (listL boxes (b0, b1, b2, b3) k).length ∧ wr.ownsRow (w.heap.size + 1) 3 1 (.slice A n c) n (nums .i64 (listL boxes (b0, b1, b2, b3) k)) ∧ Below (w.heap.size + 1) W1 wr)) (fun _ i _ => boxes.length - (intOf i).toNat)
  case atStart =>
    exact ⟨0, 0, 0, none, rfl, Nat.zero_le _, rfl, ⟨rfl, World.ownsRow_nil _ _ _ _, Below.refl _ _⟩⟩
  case round =>
    obtain ⟨k, n, c, A, rfl, hk, rfl, HD⟩ := hrel
    by_cases hlt : (k : Int) < (boxes.length : Int)
    · have hkl : k < boxes.length := by omega
      obtain ⟨rg, hRA, hrg, hrc⟩ := HH6.out (fun e => by rw [e] at hkl; simp at hkl)
      obtain ⟨c1, c2, c3, c4⟩ := hrc k hkl
      obtain ⟨⟨d0, d1, d2, d3⟩, hd⟩ : ∃ d, boxes[k] = d := ⟨_, rfl⟩
      rw [hd] at c1 c2 c3 c4
      dsimp only at c1 c2 c3 c4
      have hbl : Below w.heap.size w wr := HB1.out.trans (HD.out.2.2.mono (by omega))
      have e1 := (hbl.cell (p := ⟨rg, k * 4, none⟩) hrg).trans c1
      have e2 := (hbl.cell (p := ⟨rg, k * 4 + 1, none⟩) hrg).trans c2
      have e3 := (hbl.cell (p := ⟨rg, k * 4 + 2, none⟩) hrg).trans c3
      have e4 := (hbl.cell (p := ⟨rg, k * 4 + 3, none⟩) hrg).trans c4
      have hpart : wr.heap[w.heap.size]? = some (.cells #[.pointer (some ⟨fb, 0, none⟩), .int .i64 b0, .int .i64 b1, .int .i64 b2, .int .i64 b3] 75 (0, 0)) := by rw [HD.out.2.2.block w.heap.size (by omega)]; exact HT.out
      have hD : Aside0 (boxes[k] = (d0, d1, d2, d3)) := ⟨hd⟩
      have HBL := Aside0.mk hbl
      have HPT := Aside0.mk hpart
      have HRG := Aside0.mk hrg
      subst hRA
      clear c1 c2 c3 c4 hrc hd hbl hpart hrg ca h4
      go_wp2_with fail
      obtain ⟨W2, hW2⟩ : ∃ W2 : World, W2 = wr.alloc (.cells #[.int .i64 d0, .int .i64 d1, .int .i64 d2, .int .i64 d3] 73) := ⟨_, rfl⟩
      rw [← hW2]
      have hpw : w.heap.size < wr.heap.size := (Array.getElem?_eq_some_iff.1 HPT.out).1
      have hs2 : W2.heap.size = wr.heap.size + 1 := by rw [hW2]; simp
      have hpt2 : W2.heap[w.heap.size]? = some (.cells #[.pointer (some ⟨fb, 0, none⟩), .int .i64 b0, .int .i64 b1, .int .i64 b2, .int .i64 b3] 75 (0, 0)) := by rw [hW2, Below.heap_alloc _ _ _ hpw]; exact HPT.out
      have hrt2 : W2.heap[wr.heap.size]? = some (.cells #[.int .i64 d0, .int .i64 d1, .int .i64 d2, .int .i64 d3] 73 (0, 0)) := by rw [hW2]; exact heap_alloc_new wr _
      have p1 : W2.cell? ⟨w.heap.size, 1, none⟩ = some (.int .i64 b0) := by rw [Lib.cell_of_heap hpt2]; rfl
      have p2 : W2.cell? ⟨w.heap.size, 2, none⟩ = some (.int .i64 b1) := by rw [Lib.cell_of_heap hpt2]; rfl
      have p3 : W2.cell? ⟨w.heap.size, 3, none⟩ = some (.int .i64 b2) := by rw [Lib.cell_of_heap hpt2]; rfl
      have p4 : W2.cell? ⟨w.heap.size, 4, none⟩ = some (.int .i64 b3) := by rw [Lib.cell_of_heap hpt2]; rfl
      have q1 : W2.cell? ⟨wr.heap.size, 0, none⟩ = some (.int .i64 d0) := by rw [Lib.cell_of_heap hrt2]; rfl
      have q2 : W2.cell? ⟨wr.heap.size, 1, none⟩ = some (.int .i64 d1) := by rw [Lib.cell_of_heap hrt2]; rfl
      have q3 : W2.cell? ⟨wr.heap.size, 2, none⟩ = some (.int .i64 d2) := by rw [Lib.cell_of_heap hrt2]; rfl
      have q4 : W2.cell? ⟨wr.heap.size, 3, none⟩ = some (.int .i64 d3) := by rw [Lib.cell_of_heap hrt2]; rfl
      have HL1 : Aside0 (w.heap.size < W2.heap.size) := ⟨by omega⟩
      have HL2 : Aside0 (wr.heap.size < W2.heap.size) := ⟨by omega⟩
      have HPW := Aside0.mk hpw
      have HS2 := Aside0.mk hs2
      have HW2 := Aside0.mk hW2
      have HDB : Aside0 (BoxIn (d0, d1, d2, d3)) := ⟨by rw [← hD.out]; exact HBS.out _ (List.getElem_mem hkl)⟩
      clear hpw hs2 hpt2 hrt2 hW2 e1 e2 e3 e4
      obtain ⟨⟨m0, m1, m2, m3⟩, hm⟩ : ∃ m, bothB (b0, b1, b2, b3) (d0, d1, d2, d3) = m := ⟨_, rfl⟩
      have HBOTH : Aside0 (∀ W, Calls Try.prog 178 #[boxV (b0, b1, b2, b3), boxV (d0, d1, d2, d3)] W fun e w' => e = .returned (boxV (m0, m1, m2, m3)) ∧ Below W.heap.size W w') := ⟨fun W => by have := both_any (b0, b1, b2, b3) (d0, d1, d2, d3) HBB.out HDB.out W; rwa [hm] at this⟩
      have HM := Aside0.mk hm
      clear hm
      have hcase : m0 ≠ b0 ∨ (b0 = m0 ∧ m1 ≠ b1) ∨ (b0 = m0 ∧ b1 = m1 ∧ m2 ≠ b2) ∨ (b0 = m0 ∧ b1 = m1 ∧ b2 = m2 ∧ m3 ≠ b3) ∨ (b0 = m0 ∧ b1 = m1 ∧ b2 = m2 ∧ b3 = m3) := by omega
      rcases hcase with n0 | ⟨rfl, n0⟩ | ⟨rfl, rfl, n0⟩ | ⟨rfl, rfl, rfl, n0⟩ | ⟨rfl, rfl, rfl, rfl⟩
      all_goals
       try have n1 := beq_eq_false_iff_ne.2 n0
       go_region_held3 (fun w' => (w'.cell? ⟨w.heap.size, 1, none⟩ = some (.int .i64 b0) ∧ w'.cell? ⟨w.heap.size, 2, none⟩ = some (.int .i64 b1) ∧ w'.cell? ⟨w.heap.size, 3, none⟩ = some (.int .i64 b2) ∧ w'.cell? ⟨w.heap.size, 4, none⟩ = some (.int .i64 b3)) ∧ w'.cell? ⟨wr.heap.size, 0, none⟩ = some (.int .i64 d0) ∧ w'.cell? ⟨wr.heap.size, 1, none⟩ = some (.int .i64 d1) ∧ w'.cell? ⟨wr.heap.size, 2, none⟩ = some (.int .i64 d2) ∧ w'.cell? ⟨wr.heap.size, 3, none⟩ = some (.int .i64 d3)) (first
         | exact ⟨⟨p1, p2, p3, p4⟩, q1, q2, q3, q4⟩
         | exact ⟨⟨p1x, p2x, p3x, p4x⟩, q1x, q2x, q3x, q4x⟩
         | (go_simp)) ((go_at_call 178; refine Calls.mono (HBOTH.out _) ?_; rintro e w3 ⟨rfl, hb3⟩; have HB3 := Aside0.mk hb3; have p1x := (hb3.cell (p := ⟨w.heap.size, 1, none⟩) HL1.out).trans p1; have p2x := (hb3.cell (p := ⟨w.heap.size, 2, none⟩) HL1.out).trans p2; have p3x := (hb3.cell (p := ⟨w.heap.size, 3, none⟩) HL1.out).trans p3; have p4x := (hb3.cell (p := ⟨w.heap.size, 4, none⟩) HL1.out).trans p4; have q1x := (hb3.cell (p := ⟨wr.heap.size, 0, none⟩) HL2.out).trans q1; have q2x := (hb3.cell (p := ⟨wr.heap.size, 1, none⟩) HL2.out).trans q2; have q3x := (hb3.cell (p := ⟨wr.heap.size, 2, none⟩) HL2.out).trans q3; have q4x := (hb3.cell (p := ⟨wr.heap.size, 3, none⟩) HL2.out).trans q4; clear hb3; unfold boxV; dsimp only))
      all_goals
        have hb3w : Below wr.heap.size wr w3 := by
          have h1 : Below wr.heap.size wr W2 := by rw [HW2.out]; exact (Below.refl _ _).alloc (Nat.le_refl _) _
          have h2 : Below W2.heap.size W2 w3 := ⟨HB3.out.os, HB3.out.tape, HB3.out.output, HB3.out.size, HB3.out.block⟩
          exact h1.trans (h2.mono (by have := HS2.out; omega))
        have HBW := Aside0.mk hb3w
        clear hb3w
      iterate 4
        · have hno := listL_no (b := (b0, b1, b2, b3)) hkl (by rw [hD.out, HM.out]; intro e; simp only [Prod.mk.injEq] at e; omega)
          have HNO := Aside0.mk hno
          clear hno
          go_wp2_with fail
          refine ⟨⟨k + 1, n, c, A, by push_cast; rfl, by omega, rfl, ⟨by rw [HNO.out]; exact HD.out.1, by rw [HNO.out]; exact pw_own_below HD.out.2.1 HBW.out, HD.out.2.2.trans (HBW.out.mono (by have := HPW.out; omega))⟩⟩, by simp [intOf]; omega⟩
      · have hyes := listL_yes (b := (b0, b1, b2, b3)) hkl (by rw [hD.out, HM.out])
        have HYES := Aside0.mk hyes
        clear hyes
        go_wp2_with (at_builtin; refine print_append_num (w0 := W1) (w.heap.size + 1) rfl (.tmp 24) (.tmp 26) 34 3 .i64 8 rfl Try.underlying34 (by kernel_rfl) (by omega) _ (listL boxes (b0, b1, b2, b3) k) (k : Int) rfl rfl ?k1 (HD.out.2.2.trans (HBW.out.mono (by have := HPW.out; omega))) ?k3 ?k2 ?_; (case k1 => rw [← HD.out.1]; exact pw_own_below HD.out.2.1 HBW.out); (case k3 => have := HPW.out; have := HBW.out.size; omega); (case k2 => have := listL_len boxes (b0, b1, b2, b3) k; omega); intro v1 w1 ho hB hg hat; have HO1 := Aside0.mk ho; have HB4 := Aside0.mk hB; clear ho hB hg hat)
        obtain ⟨A1, c1, rfl⟩ := own_slice HO1.out
        refine ⟨⟨k + 1, (listL boxes (b0, b1, b2, b3) k ++ [(k : Int)]).length, c1, A1, by push_cast; rfl, by omega, rfl, ⟨by rw [HYES.out], by rw [HYES.out]; exact HO1.out, HB4.out⟩⟩, by simp [intOf]; omega⟩
    · have hkl : k = boxes.length := by omega
      subst hkl
      go_wp2_with fail
      obtain ⟨ho1, ho2, ho3⟩ := HD.out
      subst ho1
      go_ret
      obtain ⟨A', c', e, hrd⟩ := own_reads ho2
      injection e with e1 e2 e3
      subst e1 e3
      have hnc : (listL boxes (b0, b1, b2, b3) boxes.length).length ≤ c := own_cap ho2
      exact ⟨⟨A, c, rfl, hnc, Kd.C_of_reads (d := 0) (enc := Value.int .i64) (h1 := fun _ => rfl) hrd⟩, HB1.out.trans (ho3.mono (by omega))⟩
end Go.Proofs.Ytbpppchkgjcahaa
end
section
namespace Go.Proofs.Ytbpppchkgjcahaa
open Go.RowKit Go.Shelf Go.Proofs.YtbpppchkgjcahaaW.PrintWords Go.Proofs.YtbpppchkgjcahaaW.PrintMore
set_option linter.unusedVariables false
set_option maxRecDepth 100000 in
set_option maxHeartbeats 8000000 in
theorem whole_any (fb h wd : Nat) (cl : Nat → Nat → Int) (boxes : List Box) (w : World) (hf : FloorR w fb h wd cl boxes) (hh : 1 ≤ h ∧ h ≤ 1000) (hwd : wd ≤ 1000) :
    Calls Try.prog 69 #[.pointer (some ⟨fb, 0, none⟩)] w fun e w' => e = .returned (partV fb (natB 0 0 h wd)) ∧ Below w.heap.size w w' := by
  obtain ⟨g, rb, RA, rc, h1, h2, h3, h4, h5, h6⟩ := hf
  obtain ⟨a1, a2, a3⟩ := h5 0 (by omega)
  have HHI : Aside0 (∀ W, Below w.heap.size w W → Calls Try.prog 124 #[.pointer (some ⟨fb, 0, none⟩)] W fun e w' => e = .returned (.int .i64 h) ∧ w' = W) := ⟨fun W hW => high_any _ _ h h W ((hW.cell (p := ⟨fb, 0, none⟩) h1).trans h3)⟩
  have HWI : Aside0 (∀ W, Below w.heap.size w W → Calls Try.prog 125 #[.pointer (some ⟨fb, 0, none⟩)] W fun e w' => e = .returned (.int .i64 wd) ∧ w' = W) := ⟨fun W hW => wide_any _ g h h hh.1 _ wd wd W ((hW.cell (p := ⟨fb, 0, none⟩) h1).trans h3) ((hW.cell (p := ⟨g, 0, none⟩) h2).trans a2)⟩
  clear h5 h6 h1 h2 h3 h4 a1 a2 a3
  unfold partV natB
  dsimp only
  go_enter Try.func69, Try.ntmps69
  go_wp2_with (first
    | (go_at_call 124
       refine (HHI.out _ ((Below.refl _ _).alloc (Nat.le_refl _) _)).mono ?_
       rintro e w2 ⟨rfl, rfl⟩)
    | (go_at_call 125
       refine (HWI.out _ ((Below.refl _ _).alloc (Nat.le_refl _) _)).mono ?_
       rintro e w2 ⟨rfl, rfl⟩))
  refine bodyPost_ret (v := .agg #[.pointer (some ⟨fb, 0, none⟩), .int .i64 0, .int .i64 0, .int .i64 h, .int .i64 wd]) (by simp [results, Try.results69, go_sem]) rfl ⟨rfl, (Below.refl _ _).alloc (Nat.le_refl _) _⟩
end Go.Proofs.Ytbpppchkgjcahaa
end
