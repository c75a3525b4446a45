/- The program's walls: all walls, in order. -/
import Derived.Test.YtbpppchkgjcahaaKFFloorRM
import Derived.Test.YtbpppchkgjcahaaKFWallsL
namespace Go.Proofs.Ytbpppchkgjcahaa
open Go.RowKit Go.Shelf Go.Proofs.YtbpppchkgjcahaaW.PrintWords Go.Proofs.YtbpppchkgjcahaaW.PrintMore
set_option linter.unusedVariables false
set_option linter.unusedSimpArgs false
def wallCells (x : WallT) : List Value := [.bool x.1, .int .i64 x.2.1, .int .i64 x.2.2.1, .int .i64 x.2.2.2]
def wallsV (l : List WallT) : List Value := l.flatMap wallCells
theorem wallsV_append (a b : List WallT) : wallsV (a ++ b) = wallsV a ++ wallsV b := by unfold wallsV; rw [List.flatMap_append]
theorem wallsV_len (l : List WallT) : (wallsV l).length = l.length * 4 := by
  unfold wallsV
  induction l with
  | nil => rfl
  | cons a t ih => rw [List.flatMap_cons, List.length_append, ih]; simp [wallCells]; omega
theorem wallsV_get (l : List WallT) (k : Nat) (hk : k < l.length) : ∀ i, i < 4 → (wallsV l)[k * 4 + i]? = (wallCells l[k])[i]? := by
  induction l generalizing k with
  | nil => exact absurd hk (by simp)
  | cons a t ih =>
    intro i hi
    have e : wallsV (a :: t) = wallCells a ++ wallsV t := rfl
    rw [e]
    cases k with
    | zero =>
      rw [List.getElem?_append_left (by simp [wallCells]; omega)]
      simp
    | succ k =>
      rw [List.getElem?_append_right (by simp [wallCells]; omega)]
      have := ih k (by simpa using hk) i hi
      rw [show (k + 1) * 4 + i - (wallCells a).length = k * 4 + i by simp [wallCells]; omega, this]
      simp
def WallsW (W : World) (base : Nat) (v : Value) (l : List WallT) : Prop := W.ownsRow base 102 4 v l.length (wallsV l)
theorem WallsW.form {W : World} {base : Nat} {v : Value} {l : List WallT} (h : WallsW W base v l) (h0 : 0 < l.length) : ∃ g c, v = .slice (some ⟨g, 0, none⟩) l.length c ∧ l.length ≤ c ∧ base ≤ g ∧ g < W.heap.size ∧ (∃ cs, W.heap[g]? = some (.cells cs 102 (0, 0))) ∧
    ∀ k (hk : k < l.length), W.cell? ⟨g, k * 4, none⟩ = some (.bool l[k].1) ∧ W.cell? ⟨g, k * 4 + 1, none⟩ = some (.int .i64 l[k].2.1) ∧ W.cell? ⟨g, k * 4 + 2, none⟩ = some (.int .i64 l[k].2.2.1) ∧ W.cell? ⟨g, k * 4 + 3, none⟩ = some (.int .i64 l[k].2.2.2) := by
  rcases h.2 with ⟨_, e⟩ | ⟨g, c, cur, e, hg, hh, hc, _⟩
  · omega
  · subst e
    refine ⟨g, c, rfl, hc, hg, (h.lt g rfl).2, ⟨cur, hh⟩, fun k hk => ?_⟩
    have key : ∀ i, i < 4 → ∀ v, (wallCells l[k])[i]? = some v → W.cell? ⟨g, k * 4 + i, none⟩ = some v := by
      intro i hi v hv
      have hc := h.cells (g := g) rfl (k * 4 + i) v (by rw [wallsV_get l k hk i hi, hv])
      rwa [add_plain] at hc
    exact ⟨key 0 (by omega) _ rfl, key 1 (by omega) _ rfl, key 2 (by omega) _ rfl, key 3 (by omega) _ rfl⟩
theorem WallsW.bump {W : World} {base g n c : Nat} {l : List WallT} {x : WallT} (h : WallsW W base (.slice (some ⟨g, 0, none⟩) n c) (l ++ [x])) :
    WallsW (W.setCell ⟨g, l.length * 4 + 3, none⟩ (.int .i64 (x.2.2.2 + 1 : Nat))) base (.slice (some ⟨g, 0, none⟩) n c) (l ++ [longerW x]) := by
  show WallsW (W.setCells g (l.length * 4 + 3) [.int .i64 (x.2.2.2 + 1 : Nat)]) base _ _
  obtain ⟨h1, h2⟩ := h
  have ll : (l ++ [x]).length = l.length + 1 := by rw [List.length_append]; rfl
  have ll2 : (l ++ [longerW x]).length = l.length + 1 := by rw [List.length_append]; rfl
  rcases h2 with ⟨e, _⟩ | ⟨g', cap, cur, e, hg, hh, hc, hm, hs, ht⟩
  · cases e
  · injection e with e1 e2 e3
    injection e1 with e1
    injection e1 with e1
    subst e1 e2 e3
    rw [ll] at hc ht
    obtain ⟨cur', p1, p2, p3⟩ := setCells_row [.int .i64 (x.2.2.2 + 1 : Nat)] (l.length * 4 + 3) W cur hh (by show l.length * 4 + 3 + 1 ≤ cur.size; rw [hs]; omega)
    refine ⟨by rw [wallsV_len], .inr ⟨g, c, cur', by rw [ll, ll2], hg, p1, by rw [ll2]; exact hc, hm, by rw [p2, hs], ?_⟩⟩
    have lc : cur.toList.length = c * 4 := by rw [Array.length_toList, hs]
    rw [p3, ll2, splice_take _ _ _ _ (by show l.length * 4 + 3 + 1 ≤ (l.length + 1) * 4; omega) (by omega), ht, wallsV_append, wallsV_append]
    have lv := wallsV_len l
    have e1 : wallsV [x] = ([.bool x.1, .int .i64 x.2.1, .int .i64 x.2.2.1] : List Value) ++ [.int .i64 x.2.2.2] := by simp [wallsV, wallCells]
    have e2 : wallsV [longerW x] = ([.bool x.1, .int .i64 x.2.1, .int .i64 x.2.2.1] : List Value) ++ [.int .i64 (x.2.2.2 + 1 : Nat)] := by simp [wallsV, wallCells, longerW]
    rw [e1, e2, ← List.append_assoc, ← List.append_assoc]
    have l3 : (wallsV l ++ ([.bool x.1, .int .i64 x.2.1, .int .i64 x.2.2.1] : List Value)).length = l.length * 4 + 3 := by rw [List.length_append, lv]; rfl
    rw [List.take_append_of_le_length (by rw [l3]; exact Nat.le_refl _), List.take_of_length_le (by rw [l3]; exact Nat.le_refl _), List.drop_of_length_le (by rw [List.length_append, l3]; exact Nat.le_refl _), List.append_nil]
theorem WallsW.move {W W' : World} {base : Nat} {v : Value} {l : List WallT} (h : WallsW W base v l) (hb : ∀ j, v.ownBlock = some j → W'.heap[j]? = W.heap[j]?) : WallsW W' base v l := own_move h hb
theorem WallsW.mono {W : World} {base b : Nat} {v : Value} {l : List WallT} (h : WallsW W base v l) (hb : b ≤ base) : WallsW W b v l := by
  obtain ⟨h1, h2⟩ := h
  rcases h2 with h2 | ⟨g, cap, cur, e, hg, r⟩
  · exact ⟨h1, .inl h2⟩
  · exact ⟨h1, .inr ⟨g, cap, cur, e, Nat.le_trans hb hg, r⟩⟩
theorem WallsW.below {W W' : World} {base : Nat} {v : Value} {l : List WallT} (h : WallsW W base v l) (hb : Below W.heap.size W W') : WallsW W' base v l := h.move fun j hj => hb.block j (h.lt j hj).2
theorem wall_info : (Try.prog.info? 102).map (fun i => (i.zero, i.size, i.bytes)) = some (some (.agg #[.bool false, .int .i64 0, .int .i64 0, .int .i64 0]), 4, 32) := by kernel_rfl
theorem app_wall {ops : Array Oper} {rest : List Oper} {o : Oper} {a : Act} {Q : Exit → Act → World → Prop} {w0 W : World} (base : Nat) (hgd : o.guard = none) (s x : Operand)
    (ho : o.op = .call { callee := .builtin .append, args := #[s, x], argTypes := #[99, 99] })
    (v : Value) (l : List WallT) (y : WallT) (cs : Array Value) (hcs : cs.toList = wallCells y) (hs : a.eval s = v) (hx : a.eval x = .slice (some ⟨W.heap.size, 0, none⟩) 1 1)
    (HO : WallsW W base v l) (HB : Below base w0 W) (hbase : base ≤ W.heap.size) (hl : l.length ≤ 1000)
    (h : ∀ v1 w1, WallsW w1 base v1 (l ++ [y]) → Below base w0 w1 → wpList Try.prog ops Q rest (a.put o.dst v1) w1) :
    wpList Try.prog ops Q (o :: rest) a (W.alloc (.cells cs 102)) := by
  obtain ⟨i0, hi, hzz⟩ := Option.map_eq_some_iff.1 wall_info
  simp only [Prod.mk.injEq] at hzz
  obtain ⟨hz0, hz1, hz2⟩ := hzz
  obtain rfl : cs = (wallCells y).toArray := by rw [← hcs]
  have hnews := World.news_of_block (cs := (wallCells y).toArray) (t := 102) (fr := (0, 0)) (heap_alloc_new W (.cells (wallCells y).toArray 102))
  refine wpList_append_own_at (W.alloc (.cells (wallCells y).toArray 102)) hgd s x 99 ho base 102 i0 _ 4 32 Try.underlying99 hi hz0 hz1 hz2 rfl (by omega) v l.length (wallsV l) hs (World.ownsRow.alloc HO _) ⟨W.heap.size, 0, none⟩ 1 1 (wallCells y) hx rfl
    (by simpa using hnews) (fun u hu => by
      unfold wallCells at hu
      simp at hu
      rcases hu with rfl | rfl | rfl | rfl <;> rfl) (by simp only [maxLen]; omega) (by omega) (by simp; omega) ?_
  intro v1 w1 hown hg _ hat
  refine h v1 w1 ?_ ((HB.alloc hbase _).grown hg (by simp; omega) (own_base HO))
  unfold WallsW
  rw [wallsV_append, List.length_append]
  simpa [wallsV] using hown
def partW (cl : Nat → Nat → Int) (h wd k : Nat) : List WallT := if k = 0 then [] else if k = 1 then wallsFrom cl false h (wd - 1) else wallsL cl h wd
theorem partW_len (cl : Nat → Nat → Int) {h wd : Nat} (hh : h ≤ 6) (hw : wd ≤ 6) (k : Nat) : (partW cl h wd k).length ≤ 72 := by
  have h1 := wallsL_len cl hh hw
  have h2 := wallsFrom_len cl false h (wd - 1)
  have h3 : (wd - 1) * h ≤ 6 * 6 := Nat.mul_le_mul (by omega) hh
  unfold partW
  split
  · exact Nat.zero_le _
  · split <;> omega
theorem snoc_of {α : Type} {l : List α} (h : l ≠ []) : ∃ a x, l = a ++ [x] := ⟨l.dropLast, l.getLast h, (List.dropLast_concat_getLast h).symm⟩
theorem soFar_small {cl : Nat → Nat → Int} {h wd : Nat} (hh : h ≤ 6) (hw : wd ≤ 6) {k d line m : Nat} {level : Bool} (hm : m ≤ 6) (hp : (if level then wd else h) ≤ 6) {x : WallT} (hx : x ∈ (partW cl h wd k ++ wallsFrom cl level (if level then wd else h) d) ++ wallsRow cl level line m) : x.2.2.2 ≤ 6 := by
  rcases List.mem_append.1 hx with hx | hx
  · rcases List.mem_append.1 hx with hx | hx
    · unfold partW at hx
      split at hx
      · cases hx
      · split at hx
        · have := (wallsFrom_in hx).2.2.2.1; omega
        · have := (wallsL_in hx).2.2.1
          split at this <;> omega
    · have := (wallsFrom_in hx).2.2.2.1; omega
  · have := (wallsRow_in hx).2.2.2.1; omega
theorem openB_succ (df : Nat → Bool) (m : Nat) : openB df (m + 1) = df m := by unfold openB; rw [if_neg (Nat.succ_ne_zero m)]; rfl
theorem from_succ (cl : Nat → Nat → Int) (level : Bool) (places : Nat) {L : Nat} (hL : 1 ≤ L) (P : List WallT) : P ++ wallsFrom cl level places (L + 1 - 1) = (P ++ wallsFrom cl level places (L - 1)) ++ wallsRow cl level L places := by
  obtain ⟨d, rfl⟩ : ∃ d, L = d + 1 := ⟨L - 1, by omega⟩
  rw [show d + 1 + 1 - 1 = d + 1 by omega, show d + 1 - 1 = d by omega, List.append_assoc]
  show P ++ (wallsFrom cl level places d ++ wallsRow cl level (1 + d) places) = _
  rw [Nat.add_comm 1 d]
theorem soFar_len (cl : Nat → Nat → Int) {h wd : Nat} (hh : h ≤ 6) (hw : wd ≤ 6) (k : Nat) {d line m : Nat} {level : Bool} (hd : d ≤ 6) (hm : m ≤ 6) : ((partW cl h wd k ++ wallsFrom cl level (if level then wd else h) d) ++ wallsRow cl level line m).length ≤ 200 := by
  rw [List.length_append, List.length_append]
  have h1 := partW_len cl hh hw k
  have h2 := wallsFrom_len cl level (if level then wd else h) d
  have h3 := wallsRow_len cl level line m
  have h4 : d * (if level then wd else h) ≤ 6 * 6 := Nat.mul_le_mul hd (by split <;> omega)
  omega
set_option maxRecDepth 100000 in
set_option maxHeartbeats 16000000 in
theorem walls_any (fb h wd : Nat) (cl : Nat → Nat → Int) (boxes : List Box) (hh : 1 ≤ h ∧ h ≤ 6) (hw : 1 ≤ wd ∧ wd ≤ 6) (w : World) (hf : FloorR w fb h wd cl boxes) :
    Calls Try.prog 90 #[.pointer (some ⟨fb, 0, none⟩)] w fun e w' => (∃ A c, e = .returned (.slice A (wallsL cl h wd).length c) ∧ WallsW w' w.heap.size (.slice A (wallsL cl h wd).length c) (wallsL cl h wd)) ∧ Below w.heap.size w w' := by
  have HF := Aside0.mk hf
  clear hf
  have HHI : Aside0 (∀ W, Below w.heap.size w W → Calls Try.prog 124 #[.pointer (some ⟨fb, 0, none⟩)] W fun e w' => e = .returned (.int .i64 h) ∧ w' = W) := ⟨fun W hW => by
    obtain ⟨g, rb, RA, rc, h1, h2, h3, h4, h5, h6⟩ := HF.out
    exact high_any _ _ h h W ((hW.cell (p := ⟨fb, 0, none⟩) h1).trans h3)⟩
  have HWI : Aside0 (∀ W, Below w.heap.size w W → Calls Try.prog 125 #[.pointer (some ⟨fb, 0, none⟩)] W fun e w' => e = .returned (.int .i64 wd) ∧ w' = W) := ⟨fun W hW => by
    obtain ⟨g, rb, RA, rc, h1, h2, h3, h4, h5, h6⟩ := HF.out
    obtain ⟨b1, b2, b3⟩ := h5 0 (by omega)
    exact wide_any _ g h h hh.1 _ wd wd W ((hW.cell (p := ⟨fb, 0, none⟩) h1).trans h3) ((hW.cell (p := ⟨g, 0, none⟩) h2).trans b2)⟩
  have HDF : Aside0 (∀ W, Below w.heap.size w W → ∀ (level : Bool) (line at_ : Nat), 1 ≤ line → (if level then line < h ∧ at_ < wd else line < wd ∧ at_ < h) → Calls Try.prog 150 #[.pointer (some ⟨fb, 0, none⟩), .bool level, .int .i64 line, .int .i64 at_] W fun e w' => e = .returned (.bool (dfL cl level line at_)) ∧ Below W.heap.size W w') := ⟨fun W hW level line at_ h1 h2 => differ_any fb h wd cl boxes W (HF.out.below hW) (by omega) (by omega) level line at_ h1 h2⟩
  go_enter Try.func90, Try.ntmps90
  go_wp2
  obtain ⟨W1, hW1⟩ : ∃ W1 : World, W1 = w.alloc (.cells #[.bool false, .bool true] 4) := ⟨_, rfl⟩
  rw [← hW1]
  have HB1 : Aside0 (Below w.heap.size w W1 ∧ W1.heap.size = w.heap.size + 1) := ⟨by rw [hW1]; exact ⟨(Below.refl _ _).alloc (Nat.le_refl _) _, by simp⟩⟩
  have HL1 : Aside0 (W1.heap[w.heap.size]? = some (.cells #[.bool false, .bool true] 4 (0, 0))) := ⟨by rw [hW1]; exact heap_alloc_new w _⟩
  clear hW1
  go_loopw [3, 14] (fun v i wr => ∃ (k n c : Nat) (A : Option Addr), i = .int .i64 k ∧ k ≤ 2 ∧ v = .slice A n c ∧ Aside0 (n = (partW cl h wd k).length ∧ WallsW wr (w.heap.size + 1) (.slice A n c) (partW cl h wd k) ∧ Below (w.heap.size + 1) W1 wr)) (fun _ i _ => 2 - (intOf i).toNat)
  case atStart => exact ⟨0, 0, 0, none, rfl, by omega, rfl, ⟨rfl, World.ownsRow_nil _ _ _ _, Below.refl _ _⟩⟩
  case round =>
    obtain ⟨k, n, c, A, rfl, hk, rfl, HD⟩ := hrel
    obtain ⟨wo, rfl⟩ : ∃ wo : World, wo = wr := ⟨_, rfl⟩
    by_cases hlt : (k : Int) < 2
    · have HBW : Aside0 (Below w.heap.size w wo) := ⟨HB1.out.1.trans (HD.out.2.2.mono (by omega))⟩
      have hlit := (HD.out.2.2.block w.heap.size (by omega)).trans HL1.out
      have c0 := blk_cell hlit 0
      have c1 := blk_cell hlit 1
      simp at c0 c1
      clear hlit
      have hkk : k = 0 ∨ k = 1 := by omega
      rcases hkk with rfl | rfl
      · go_wp2_with fail
        refine (HWI.out _ HBW.out).mono ?_
        rintro e w2 ⟨rfl, rfl⟩
        go_wp2_with fail
        refine (HHI.out _ HBW.out).mono ?_
        rintro e w2 ⟨rfl, rfl⟩
        go_wp2
        go_loopw [3, 8] (fun v l wr => ∃ (L n c : Nat) (A : Option Addr), l = .int .i64 L ∧ 1 ≤ L ∧ L ≤ wd ∧ v = .slice A n c ∧ Aside0 (n = (partW cl h wd 0 ++ wallsFrom cl false h (L - 1)).length ∧ WallsW wr (w.heap.size + 1) (.slice A n c) (partW cl h wd 0 ++ wallsFrom cl false h (L - 1)) ∧ Below (w.heap.size + 1) W1 wr)) (fun _ l _ => wd - (intOf l).toNat)
        case atStart =>
          have e0 : partW cl h wd 0 ++ wallsFrom cl false h (1 - 1) = partW cl h wd 0 := List.append_nil _
          exact ⟨1, n, c, A, rfl, Nat.le_refl _, by omega, rfl, ⟨by rw [e0]; exact HD.out.1, by rw [e0]; exact HD.out.2.1, HD.out.2.2⟩⟩
        case round =>
          obtain ⟨L, n, c, A, rfl, hL1, hL2, rfl, HE⟩ := hrel
          by_cases hlL : (L : Int) < (wd : Int)
          · go_wp2
            go_loopw [3, 9, 31] (fun v op i wr => ∃ (m n c : Nat) (A : Option Addr), i = .int .i64 m ∧ m ≤ h ∧ op = .bool (openB (dfL cl false L) m) ∧ v = .slice A n c ∧ Aside0 (n = ((partW cl h wd 0 ++ wallsFrom cl false h (L - 1)) ++ wallsRow cl false L m).length ∧ WallsW wr (w.heap.size + 1) (.slice A n c) ((partW cl h wd 0 ++ wallsFrom cl false h (L - 1)) ++ wallsRow cl false L m) ∧ Below (w.heap.size + 1) W1 wr)) (fun _ _ i _ => h - (intOf i).toNat)
            case atStart =>
              have e0 : (partW cl h wd 0 ++ wallsFrom cl false h (L - 1)) ++ wallsRow cl false L 0 = partW cl h wd 0 ++ wallsFrom cl false h (L - 1) := List.append_nil _
              exact ⟨0, n, c, A, rfl, Nat.zero_le _, rfl, rfl, ⟨by rw [e0]; exact HE.out.1, by rw [e0]; exact HE.out.2.1, HE.out.2.2⟩⟩
            case round =>
              obtain ⟨m, n, c, A, rfl, hm, rfl, rfl, HG⟩ := hrel
              have HBR : Aside0 (Below w.heap.size w wr) := ⟨HB1.out.1.trans (HG.out.2.2.mono (by omega))⟩
              by_cases hlm : (m : Int) < (h : Int)
              · have hdf := HDF.out wr HBR.out false L m hL1 ⟨by omega, by omega⟩
                have hsn := wallsRow_snoc cl false L m (partW cl h wd 0 ++ wallsFrom cl false h (L - 1))
                have hos := openB_succ (dfL cl false L) m
                have hsm := fun x hx => soFar_small (cl := cl) hh.2 hw.2 (k := 0) (d := L - 1) (line := L) (m := m) (level := false) (by omega) (by simp; omega) (x := x) hx
                have hln := soFar_len cl hh.2 hw.2 0 (d := L - 1) (line := L) (m := m) (level := false) (by omega) (by omega)
                simp only [if_true, Bool.false_eq_true, if_false] at hsm hln
                cases hd : dfL cl false L m with
                | false =>
                  rw [hd] at hdf hos
                  rw [hd, if_neg (by simp)] at hsn
                  have HSN := Aside0.mk hsn
                  have HOS := Aside0.mk hos
                  have HCL := Aside0.mk hdf
                  clear hsn hos hdf hsm hln hd
                  cases ho : openB (dfL cl false L) m
                  all_goals
                    go_wp2_with fail
                    refine HCL.out.mono ?_
                    rintro e w3 ⟨rfl, hb3⟩
                    have HB3 := Aside0.mk hb3
                    clear hb3
                    go_wp2
                    go_roundw
                    case rel => exact ⟨m + 1, n, c, A, by go_num, by omega, by rw [HOS.out], rfl, ⟨by rw [HSN.out]; exact HG.out.1, by rw [HSN.out]; exact HG.out.2.1.below HB3.out, HG.out.2.2.trans (HB3.out.mono (by have := HG.out.2.2.size; have := HB1.out.2; omega))⟩⟩
                    case measure => simp [intOf]; omega
                | true =>
                  rw [hd] at hdf hos
                  rw [hd, if_pos rfl] at hsn
                  cases ho : openB (dfL cl false L) m with
                  | true =>
                    rw [ho, if_pos rfl] at hsn
                    obtain ⟨l0, x, hlx⟩ := snoc_of (l := (partW cl h wd 0 ++ wallsFrom cl false h (L - 1)) ++ wallsRow cl false L m) (fun e => by
                      have h1 : wallsRow cl false L m = [] := (List.append_eq_nil_iff.1 e).2
                      exact runs_ne _ m ho (List.map_eq_nil_iff.1 h1))
                    have hx6 := hsm x (by rw [hlx]; simp)
                    rw [hlx, bump_last] at hsn
                    have hGG := HG.out
                    rw [hlx] at hGG hln
                    have hnn : n = l0.length + 1 := by rw [hGG.1, List.length_append]; rfl
                    obtain ⟨g, c9, hA, hc9, hg1, hg2, ⟨cs9, hcs9⟩, hcell⟩ := hGG.2.1.form (by rw [List.length_append]; show 0 < l0.length + 1; omega)
                    injection hA with hA hA2 hA3
                    subst hA hA3
                    obtain ⟨_, _, _, f3⟩ := hcell l0.length (by rw [List.length_append]; show l0.length < l0.length + 1; omega)
                    have hxe : (l0 ++ [x])[l0.length]'(by rw [List.length_append]; show l0.length < l0.length + 1; omega) = x := by simp
                    rw [hxe] at f3
                    have z3 := blk_frozen hcs9 (l0.length * 4 + 3)
                    obtain ⟨q, hq⟩ : ∃ q, l0.length = q := ⟨_, rfl⟩
                    obtain ⟨y, hy⟩ : ∃ y, x.2.2.2 = y := ⟨_, rfl⟩
                    have hsn2 := hsn
                    have HSN := Aside0.mk hsn2
                    have HOS := Aside0.mk hos
                    have HCL := Aside0.mk hdf
                    have HGG := Aside0.mk hGG
                    rw [hq] at f3 z3 hnn
                    rw [hy] at f3 hx6
                    have HQ := Aside0.mk hq
                    have hn200 : n ≤ 200 := by rw [hGG.1]; exact hln
                    have e1 : ((n : Int) - 1) = ((q : Nat) : Int) := by omega
                    have v1 : IntKind.i64.wrap ((q : Nat) : Int) = ((q : Nat) : Int) := by rw [IntKind.wrap_i64]; omega
                    have n1 : ((q : Nat) : Int) < (n : Int) := by omega
                    have n2 : (n : Int) ≤ (c : Int) := by have := hc9; rw [List.length_append] at this; have h1 : ([x] : List WallT).length = 1 := rfl; omega
                    have HNN := Aside0.mk hnn
                    have HY := Aside0.mk hy
                    have HG1 := Aside0.mk hg1
                    have HLX := Aside0.mk hlx
                    clear hsn hsn2 hos hdf hsm hln hd hlx hGG hA2 hg1 hcs9 hcell hxe hq hy hnn ho hc9
                    go_wp2_with fail
                    refine HCL.out.mono ?_
                    rintro e w3 ⟨rfl, hb3⟩
                    have f3x := (hb3.cell (p := ⟨g, q * 4 + 3, none⟩) hg2).trans f3
                    have z3x := (hb3.frozen (p := ⟨g, q * 4 + 3, none⟩) hg2).trans z3
                    have HB3 := Aside0.mk hb3
                    clear hb3 f3 z3
                    go_wp2
                    go_roundw
                    case rel =>
                      refine ⟨m + 1, n, c, some ⟨g, 0, none⟩, by go_num, by omega, by rw [HOS.out], rfl, ⟨?_, ?_, ?_⟩⟩
                      · rw [HSN.out, List.length_append, HQ.out]; exact HNN.out
                      · rw [HSN.out]
                        have hbm := (HGG.out.2.1.below HB3.out).bump
                        rw [HQ.out, HY.out] at hbm
                        exact hbm
                      · exact Below.setCell (p := ⟨g, q * 4 + 3, none⟩) (HG.out.2.2.trans (HB3.out.mono (by have := HG.out.2.2.size; have := HB1.out.2; omega))) HG1.out _
                    case measure => simp [intOf]; omega
                  | false =>
                    rw [ho, if_neg (by simp)] at hsn
                    have HSN := Aside0.mk hsn
                    have HOS := Aside0.mk hos
                    have HCL := Aside0.mk hdf
                    have HLN := Aside0.mk hln
                    clear hsn hos hdf hsm hln hd ho
                    go_wp2_with fail
                    refine HCL.out.mono ?_
                    rintro e w3 ⟨rfl, hb3⟩
                    have HB3 := Aside0.mk hb3
                    have HW3 := Aside0.mk (HG.out.2.1.below hb3)
                    have HBB : Aside0 (Below (w.heap.size + 1) W1 w3 ∧ w.heap.size + 1 ≤ w3.heap.size) := ⟨HG.out.2.2.trans (hb3.mono (by have := HG.out.2.2.size; have := HB1.out.2; omega)), by have := HG.out.2.2.size; have := HB1.out.2; have := hb3.size; omega⟩
                    clear hb3
                    go_wp2_with (at_builtin; refine app_wall (w0 := W1) (w.heap.size + 1) rfl (.tmp 56) (.tmp 61) rfl _ ((partW cl h wd 0 ++ wallsFrom cl false h (L - 1)) ++ wallsRow cl false L m) (false, L, m, 1) _ rfl rfl rfl ?k1 HBB.out.1 HBB.out.2 ?k2 ?_; (case k1 => exact HW3.out); (case k2 => have := HLN.out; omega); intro v1 w1 ho1 hB1; have HO1 := Aside0.mk ho1; have HBN := Aside0.mk hB1; clear ho1 hB1)
                    obtain ⟨A1, c1, rfl⟩ := own_slice HO1.out
                    go_wp2
                    go_roundw
                    case rel => exact ⟨m + 1, (((partW cl h wd 0 ++ wallsFrom cl false h (L - 1)) ++ wallsRow cl false L m) ++ [(false, L, m, 1)]).length, c1, A1, by go_num, by omega, by rw [HOS.out], rfl, ⟨by rw [HSN.out], by rw [HSN.out]; exact HO1.out, HBN.out⟩⟩
                    case measure => simp [intOf]; omega
              · have hme : m = h := by omega
                rw [hme] at HG
                have HFS := Aside0.mk (from_succ cl false h hL1 (partW cl h wd 0))
                clear hme
                go_wp2
                go_roundw
                case rel => exact ⟨L + 1, n, c, A, by go_num, by omega, by omega, rfl, ⟨by rw [HFS.out]; exact HG.out.1, by rw [HFS.out]; exact HG.out.2.1, HG.out.2.2⟩⟩
                case measure => simp [intOf]; omega
          · have hLe : L = wd := by omega
            rw [hLe] at HE
            have HPS : Aside0 (partW cl h wd 1 = partW cl h wd 0 ++ wallsFrom cl false h (wd - 1)) := ⟨rfl⟩
            clear hLe
            go_wp2
            go_roundw
            case rel => exact ⟨1, n, c, A, by first | rfl | go_num, by omega, rfl, ⟨by rw [HPS.out]; exact HE.out.1, by rw [HPS.out]; exact HE.out.2.1, HE.out.2.2⟩⟩
            case measure => simp [intOf]
      · go_wp2_with fail
        refine (HWI.out _ HBW.out).mono ?_
        rintro e w2 ⟨rfl, rfl⟩
        go_wp2_with fail
        refine (HHI.out _ HBW.out).mono ?_
        rintro e w2 ⟨rfl, rfl⟩
        go_wp2
        go_loopw [3, 8] (fun v l wr => ∃ (L n c : Nat) (A : Option Addr), l = .int .i64 L ∧ 1 ≤ L ∧ L ≤ h ∧ v = .slice A n c ∧ Aside0 (n = (partW cl h wd 1 ++ wallsFrom cl true wd (L - 1)).length ∧ WallsW wr (w.heap.size + 1) (.slice A n c) (partW cl h wd 1 ++ wallsFrom cl true wd (L - 1)) ∧ Below (w.heap.size + 1) W1 wr)) (fun _ l _ => h - (intOf l).toNat)
        case atStart =>
          have e0 : partW cl h wd 1 ++ wallsFrom cl true wd (1 - 1) = partW cl h wd 1 := List.append_nil _
          exact ⟨1, n, c, A, rfl, Nat.le_refl _, by omega, rfl, ⟨by rw [e0]; exact HD.out.1, by rw [e0]; exact HD.out.2.1, HD.out.2.2⟩⟩
        case round =>
          obtain ⟨L, n, c, A, rfl, hL1, hL2, rfl, HE⟩ := hrel
          by_cases hlL : (L : Int) < (h : Int)
          · go_wp2
            go_loopw [3, 9, 31] (fun v op i wr => ∃ (m n c : Nat) (A : Option Addr), i = .int .i64 m ∧ m ≤ wd ∧ op = .bool (openB (dfL cl true L) m) ∧ v = .slice A n c ∧ Aside0 (n = ((partW cl h wd 1 ++ wallsFrom cl true wd (L - 1)) ++ wallsRow cl true L m).length ∧ WallsW wr (w.heap.size + 1) (.slice A n c) ((partW cl h wd 1 ++ wallsFrom cl true wd (L - 1)) ++ wallsRow cl true L m) ∧ Below (w.heap.size + 1) W1 wr)) (fun _ _ i _ => wd - (intOf i).toNat)
            case atStart =>
              have e0 : (partW cl h wd 1 ++ wallsFrom cl true wd (L - 1)) ++ wallsRow cl true L 0 = partW cl h wd 1 ++ wallsFrom cl true wd (L - 1) := List.append_nil _
              exact ⟨0, n, c, A, rfl, Nat.zero_le _, rfl, rfl, ⟨by rw [e0]; exact HE.out.1, by rw [e0]; exact HE.out.2.1, HE.out.2.2⟩⟩
            case round =>
              obtain ⟨m, n, c, A, rfl, hm, rfl, rfl, HG⟩ := hrel
              have HBR : Aside0 (Below w.heap.size w wr) := ⟨HB1.out.1.trans (HG.out.2.2.mono (by omega))⟩
              by_cases hlm : (m : Int) < (wd : Int)
              · have hdf := HDF.out wr HBR.out true L m hL1 ⟨by omega, by omega⟩
                have hsn := wallsRow_snoc cl true L m (partW cl h wd 1 ++ wallsFrom cl true wd (L - 1))
                have hos := openB_succ (dfL cl true L) m
                have hsm := fun x hx => soFar_small (cl := cl) hh.2 hw.2 (k := 1) (d := L - 1) (line := L) (m := m) (level := true) (by omega) (by simp; omega) (x := x) hx
                have hln := soFar_len cl hh.2 hw.2 1 (d := L - 1) (line := L) (m := m) (level := true) (by omega) (by omega)
                simp only [if_true, Bool.false_eq_true, if_false] at hsm hln
                cases hd : dfL cl true L m with
                | false =>
                  rw [hd] at hdf hos
                  rw [hd, if_neg (by simp)] at hsn
                  have HSN := Aside0.mk hsn
                  have HOS := Aside0.mk hos
                  have HCL := Aside0.mk hdf
                  clear hsn hos hdf hsm hln hd
                  cases ho : openB (dfL cl true L) m
                  all_goals
                    go_wp2_with fail
                    refine HCL.out.mono ?_
                    rintro e w3 ⟨rfl, hb3⟩
                    have HB3 := Aside0.mk hb3
                    clear hb3
                    go_wp2
                    go_roundw
                    case rel => exact ⟨m + 1, n, c, A, by go_num, by omega, by rw [HOS.out], rfl, ⟨by rw [HSN.out]; exact HG.out.1, by rw [HSN.out]; exact HG.out.2.1.below HB3.out, HG.out.2.2.trans (HB3.out.mono (by have := HG.out.2.2.size; have := HB1.out.2; omega))⟩⟩
                    case measure => simp [intOf]; omega
                | true =>
                  rw [hd] at hdf hos
                  rw [hd, if_pos rfl] at hsn
                  cases ho : openB (dfL cl true L) m with
                  | true =>
                    rw [ho, if_pos rfl] at hsn
                    obtain ⟨l0, x, hlx⟩ := snoc_of (l := (partW cl h wd 1 ++ wallsFrom cl true wd (L - 1)) ++ wallsRow cl true L m) (fun e => by
                      have h1 : wallsRow cl true L m = [] := (List.append_eq_nil_iff.1 e).2
                      exact runs_ne _ m ho (List.map_eq_nil_iff.1 h1))
                    have hx6 := hsm x (by rw [hlx]; simp)
                    rw [hlx, bump_last] at hsn
                    have hGG := HG.out
                    rw [hlx] at hGG hln
                    have hnn : n = l0.length + 1 := by rw [hGG.1, List.length_append]; rfl
                    obtain ⟨g, c9, hA, hc9, hg1, hg2, ⟨cs9, hcs9⟩, hcell⟩ := hGG.2.1.form (by rw [List.length_append]; show 0 < l0.length + 1; omega)
                    injection hA with hA hA2 hA3
                    subst hA hA3
                    obtain ⟨_, _, _, f3⟩ := hcell l0.length (by rw [List.length_append]; show l0.length < l0.length + 1; omega)
                    have hxe : (l0 ++ [x])[l0.length]'(by rw [List.length_append]; show l0.length < l0.length + 1; omega) = x := by simp
                    rw [hxe] at f3
                    have z3 := blk_frozen hcs9 (l0.length * 4 + 3)
                    obtain ⟨q, hq⟩ : ∃ q, l0.length = q := ⟨_, rfl⟩
                    obtain ⟨y, hy⟩ : ∃ y, x.2.2.2 = y := ⟨_, rfl⟩
                    have hsn2 := hsn
                    have HSN := Aside0.mk hsn2
                    have HOS := Aside0.mk hos
                    have HCL := Aside0.mk hdf
                    have HGG := Aside0.mk hGG
                    rw [hq] at f3 z3 hnn
                    rw [hy] at f3 hx6
                    have HQ := Aside0.mk hq
                    have hn200 : n ≤ 200 := by rw [hGG.1]; exact hln
                    have e1 : ((n : Int) - 1) = ((q : Nat) : Int) := by omega
                    have v1 : IntKind.i64.wrap ((q : Nat) : Int) = ((q : Nat) : Int) := by rw [IntKind.wrap_i64]; omega
                    have n1 : ((q : Nat) : Int) < (n : Int) := by omega
                    have n2 : (n : Int) ≤ (c : Int) := by have := hc9; rw [List.length_append] at this; have h1 : ([x] : List WallT).length = 1 := rfl; omega
                    have HNN := Aside0.mk hnn
                    have HY := Aside0.mk hy
                    have HG1 := Aside0.mk hg1
                    have HLX := Aside0.mk hlx
                    clear hsn hsn2 hos hdf hsm hln hd hlx hGG hA2 hg1 hcs9 hcell hxe hq hy hnn ho hc9
                    go_wp2_with fail
                    refine HCL.out.mono ?_
                    rintro e w3 ⟨rfl, hb3⟩
                    have f3x := (hb3.cell (p := ⟨g, q * 4 + 3, none⟩) hg2).trans f3
                    have z3x := (hb3.frozen (p := ⟨g, q * 4 + 3, none⟩) hg2).trans z3
                    have HB3 := Aside0.mk hb3
                    clear hb3 f3 z3
                    go_wp2
                    go_roundw
                    case rel =>
                      refine ⟨m + 1, n, c, some ⟨g, 0, none⟩, by go_num, by omega, by rw [HOS.out], rfl, ⟨?_, ?_, ?_⟩⟩
                      · rw [HSN.out, List.length_append, HQ.out]; exact HNN.out
                      · rw [HSN.out]
                        have hbm := (HGG.out.2.1.below HB3.out).bump
                        rw [HQ.out, HY.out] at hbm
                        exact hbm
                      · exact Below.setCell (p := ⟨g, q * 4 + 3, none⟩) (HG.out.2.2.trans (HB3.out.mono (by have := HG.out.2.2.size; have := HB1.out.2; omega))) HG1.out _
                    case measure => simp [intOf]; omega
                  | false =>
                    rw [ho, if_neg (by simp)] at hsn
                    have HSN := Aside0.mk hsn
                    have HOS := Aside0.mk hos
                    have HCL := Aside0.mk hdf
                    have HLN := Aside0.mk hln
                    clear hsn hos hdf hsm hln hd ho
                    go_wp2_with fail
                    refine HCL.out.mono ?_
                    rintro e w3 ⟨rfl, hb3⟩
                    have HB3 := Aside0.mk hb3
                    have HW3 := Aside0.mk (HG.out.2.1.below hb3)
                    have HBB : Aside0 (Below (w.heap.size + 1) W1 w3 ∧ w.heap.size + 1 ≤ w3.heap.size) := ⟨HG.out.2.2.trans (hb3.mono (by have := HG.out.2.2.size; have := HB1.out.2; omega)), by have := HG.out.2.2.size; have := HB1.out.2; have := hb3.size; omega⟩
                    clear hb3
                    go_wp2_with (at_builtin; refine app_wall (w0 := W1) (w.heap.size + 1) rfl (.tmp 56) (.tmp 61) rfl _ ((partW cl h wd 1 ++ wallsFrom cl true wd (L - 1)) ++ wallsRow cl true L m) (true, L, m, 1) _ rfl rfl rfl ?k1 HBB.out.1 HBB.out.2 ?k2 ?_; (case k1 => exact HW3.out); (case k2 => have := HLN.out; omega); intro v1 w1 ho1 hB1; have HO1 := Aside0.mk ho1; have HBN := Aside0.mk hB1; clear ho1 hB1)
                    obtain ⟨A1, c1, rfl⟩ := own_slice HO1.out
                    go_wp2
                    go_roundw
                    case rel => exact ⟨m + 1, (((partW cl h wd 1 ++ wallsFrom cl true wd (L - 1)) ++ wallsRow cl true L m) ++ [(true, L, m, 1)]).length, c1, A1, by go_num, by omega, by rw [HOS.out], rfl, ⟨by rw [HSN.out], by rw [HSN.out]; exact HO1.out, HBN.out⟩⟩
                    case measure => simp [intOf]; omega
              · have hme : m = wd := by omega
                rw [hme] at HG
                have HFS := Aside0.mk (from_succ cl true wd hL1 (partW cl h wd 1))
                clear hme
                go_wp2
                go_roundw
                case rel => exact ⟨L + 1, n, c, A, by go_num, by omega, by omega, rfl, ⟨by rw [HFS.out]; exact HG.out.1, by rw [HFS.out]; exact HG.out.2.1, HG.out.2.2⟩⟩
                case measure => simp [intOf]; omega
          · have hLe : L = h := by omega
            rw [hLe] at HE
            have HPS : Aside0 (partW cl h wd 2 = partW cl h wd 1 ++ wallsFrom cl true wd (h - 1)) := ⟨rfl⟩
            clear hLe
            go_wp2
            go_roundw
            case rel => exact ⟨2, n, c, A, by first | rfl | go_num, by omega, rfl, ⟨by rw [HPS.out]; exact HE.out.1, by rw [HPS.out]; exact HE.out.2.1, HE.out.2.2⟩⟩
            case measure => simp [intOf]
    · have hk2 : k = 2 := by omega
      have HPW : Aside0 (partW cl h wd k = wallsL cl h wd) := ⟨by rw [hk2]; rfl⟩
      clear hk2
      go_wp2
      obtain ⟨d1, d2, d3⟩ := HD.out
      rw [HPW.out] at d1 d2
      subst d1
      go_ret
      exact ⟨⟨A, c, rfl, d2.mono (by omega)⟩, HB1.out.1.trans (d3.mono (by omega))⟩
end Go.Proofs.Ytbpppchkgjcahaa
