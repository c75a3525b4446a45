/- Texts of this claim's, joined by a program: EShelf2, ETwo, ENear, EQueue, EWallMany, ENumsW, ERepeatV, ESteps, ENearW, ENearX, EExCut, EExTrans. -/
import Derived.Test.YtbpppchkgjcahaaKEShelfM
import Derived.Shelf.Strings.Builder1
import Derived.Shelf.Small.Wraps
import Derived.Shelf.Strings.BuilderF
import Derived.Shelf.Strings.BuilderK
import Derived.Shelf.Strings.Search1
import Derived.Shelf.Strings.Search2
import Derived.Shelf.Strings.Search3
import Derived.Shelf.Strings.Count
import Derived.Shelf.LaysM
import Derived.Shelf.Strings.Shaped
import Derived.Shelf.Sort.Plain
import Derived.Shelf.Bits.Mul64
import Derived.Shelf.Strings.BuilderCap
import Derived.Shelf.Slices.Turned
import Derived.Shelf.Slices.Equal
import Derived.Ground.Names2Prog
import Derived.Shelf.Slices.CompactI
import Derived.Shelf.Slices.SearchI
import Derived.Shelf.Slices.Empties2
import Derived.Test.YtbpppchkgjcahaaProg
import Derived.Test.YtbpppchkgjcahaaKEFloorRM
import Derived.Sort.OwnSortedInts
import Derived.Test.YtbpppchkgjcahaaKETouch
import Derived.ArgAppend
import Derived.Test.YtbpppchkgjcahaaKEWalls
import Derived.Laws.IdiomCopy
import Derived.Deep.RegionHeld3
section
namespace Go.Proofs
open Go.Shelf
end Go.Proofs
end
section
namespace Go.Proofs.Ytbpppchkgjcahaa
open Go.RowKit Go.Shelf Go.Proofs.YtbpppchkgjcahaaW.PrintWords Go.Proofs.YtbpppchkgjcahaaW.PrintMore
set_option linter.unusedVariables false
set_option linter.unusedSimpArgs false
structure Two (W : World) (base : Nat) (v u : Value) (xs ys : List Int) : Prop where
  one : W.ownsRow base 3 1 v xs.length (nums .i64 xs)
  two : W.ownsRow base 3 1 u ys.length (nums .i64 ys)
  apart : ∀ j, v.ownBlock = some j → u.ownBlock ≠ some j
theorem Two.nil (W : World) (base : Nat) : Two W base (.slice none 0 0) (.slice none 0 0) [] [] := ⟨World.ownsRow_nil _ _ _ _, World.ownsRow_nil _ _ _ _, fun j h => by cases h⟩
theorem Two.below {W W' : World} {base : Nat} {v u : Value} {xs ys : List Int} (h : Two W base v u xs ys) (hb : Below W.heap.size W W') : Two W' base v u xs ys := ⟨pw_own_below h.one hb, pw_own_below h.two hb, h.apart⟩
def OwnI (W : World) (base : Nat) (A : Option Addr) (xs : List Int) : Prop := ∃ g, A = some ⟨g, 0, none⟩ ∧ base ≤ g ∧ g < W.heap.size ∧ ∀ k (hk : k < xs.length), W.cell? ⟨g, k, none⟩ = some (.int .i64 xs[k])
theorem OwnI.move {W W' : World} {base : Nat} {A : Option Addr} {xs : List Int} (h : OwnI W base A xs) (hs : W.heap.size ≤ W'.heap.size) (hm : ∀ g, base ≤ g → g < W.heap.size → W'.heap[g]? = W.heap[g]?) : OwnI W' base A xs := by
  obtain ⟨g, rfl, h1, h2, h3⟩ := h
  exact ⟨g, rfl, h1, by omega, fun k hk => by rw [World.cell?_of_block (w := W) (hm g h1 h2)]; exact h3 k hk⟩
theorem own_holds {W : World} {base : Nat} {A : Option Addr} {n c : Nat} {xs : List Int} (h : W.ownsRow base 3 1 (.slice A n c) xs.length (nums .i64 xs)) (h0 : 0 < xs.length) :
    ∃ g, A = some ⟨g, 0, none⟩ ∧ n = xs.length ∧ xs.length ≤ c ∧ base ≤ g ∧ g < W.heap.size ∧ Go.Sort.Holds (Value.int .i64) W g 0 xs.toArray := by
  rcases h.2 with ⟨_, e⟩ | ⟨g, cap, cur, e, hg, hh, hc, hm, hs, ht⟩
  · omega
  · injection e with e1 e2 e3
    subst e1 e2 e3
    refine ⟨g, rfl, rfl, hc, hg, (Array.getElem?_eq_some_iff.1 hh).1, holds_of_blockI hh ?_⟩
    rw [Nat.mul_one] at ht
    rw [ht]; rfl
end Go.Proofs.Ytbpppchkgjcahaa
end
section
namespace Go.Proofs.Ytbpppchkgjcahaa
open Go.RowKit Go.Shelf Go.Proofs.YtbpppchkgjcahaaW.PrintWords Go.Proofs.YtbpppchkgjcahaaW.PrintMore
set_option linter.unusedVariables false
set_option linter.unusedSimpArgs false
def nearTo (nb : Nat → Nat → Bool) (a k : Nat) : List Int := (nearL nb k a).map fun x : Nat => (x : Int)
theorem nearTo_succ (nb : Nat → Nat → Bool) (a k : Nat) : nearTo nb a (k + 1) = if nb a k then nearTo nb a k ++ [(k : Int)] else nearTo nb a k := by
  unfold nearTo nearL
  rw [List.range_succ, List.filter_append]
  cases h : nb a k
  · rw [List.filter_cons_of_neg (by simp [h])]; simp
  · rw [List.filter_cons_of_pos (by simp [h])]; simp
theorem nearTo_len (nb : Nat → Nat → Bool) (a k : Nat) : (nearTo nb a k).length ≤ k := by
  unfold nearTo nearL
  rw [List.length_map]
  exact Nat.le_trans (List.length_filter_le _ _) (by rw [List.length_range]; exact Nat.le_refl _)
def RowI (w w' : World) (e : Ending) (xs : List Int) : Prop := (∃ A c, e = .returned (.slice A xs.length c) ∧ w'.ownsRow w.heap.size 3 1 (.slice A xs.length c) xs.length (nums .i64 xs)) ∧ Below w.heap.size w w'
theorem own_len {W : World} {base : Nat} {v : Value} {xs : List Int} (h : W.ownsRow base 3 1 v xs.length (nums .i64 xs)) : ∃ A c, v = .slice A xs.length c := by
  rcases h.2 with ⟨e, e0⟩ | ⟨g, c, cur, e, _⟩
  · exact ⟨none, 0, by rw [e, e0]⟩
  · exact ⟨_, _, e⟩
set_option maxRecDepth 100000 in
set_option maxHeartbeats 8000000 in
theorem near_any (g n : Nat) (rb : Nat → Nat) (T : Nat → Nat → Int) (nb : Nat → Nat → Bool) (hn : n ≤ 9) (hT : ∀ a b, decide (0 < T a b) = nb a b) (a : Nat) (ha : a < n) (w : World) (hI : IntsW w g n rb T) :
    Calls Try.prog 78 #[.slice (some ⟨g, 0, none⟩) n n, .int .i64 (a : Int)] w fun e w' => RowI w w' e (nearTo nb a n) := by
  have HI := Aside0.mk hI
  have HT := Aside0.mk hT
  have c0 := hI.cell ha
  have a0 : (0 : Int) ≤ (a : Int) := by omega
  have an : (a : Int) < (n : Int) := by omega
  clear hI hT
  go_enter Try.func78, Try.ntmps78
  go_wp2
  go_loopw [5, 13] (fun v i wr => ∃ (k : Nat), i = .int .i64 k ∧ k ≤ n ∧ Aside0 (wr.ownsRow w.heap.size 3 1 v (nearTo nb a k).length (nums .i64 (nearTo nb a k)) ∧ Below w.heap.size w wr)) (fun _ i _ => n - (intOf i).toNat)
  case atStart => exact ⟨0, rfl, Nat.zero_le _, ⟨World.ownsRow_nil _ _ _ _, Below.refl _ _⟩⟩
  case round =>
    obtain ⟨k, rfl, hk, HD⟩ := hrel
    obtain ⟨wo, rfl⟩ : ∃ wo : World, wo = wr := ⟨_, rfl⟩
    by_cases hlt : (k : Int) < (n : Int)
    · obtain ⟨c1, _⟩ := (HI.out.below HD.out.2).at ha (show k < n by omega)
      have k0 : (0 : Int) ≤ (k : Int) := by omega
      have HS := Aside0.mk (nearTo_succ nb a k)
      have hd := HT.out a k
      cases hb : nb a k with
      | true =>
        rw [hb] at hd
        have h1 : (0 : Int) < T a k := by simpa using hd
        have HS2 : Aside0 (nearTo nb a (k + 1) = nearTo nb a k ++ [(k : Int)]) := ⟨by rw [HS.out, hb, if_pos rfl]⟩
        clear hb hd
        go_wp2_with (at_builtin; refine print_append_num (w0 := w) w.heap.size rfl (.tmp 20) (.tmp 22) 34 3 .i64 8 rfl Try.underlying34 (by kernel_rfl) (by omega) _ (nearTo nb a k) (k : Int) rfl rfl ?k1 HD.out.2 HD.out.2.size ?k2 ?_; (case k1 => exact HD.out.1); (case k2 => have := nearTo_len nb a k; omega); intro v1 w1 ho hB hg hat; have HT1 := Aside0.mk ho; have HB1 := Aside0.mk hB; clear ho hB hg hat)
        go_roundw
        case rel => exact ⟨k + 1, by go_num, by omega, ⟨by rw [HS2.out]; exact HT1.out, HB1.out⟩⟩
        case measure => simp [intOf]; omega
      | false =>
        rw [hb] at hd
        have h1 : ¬ (0 : Int) < T a k := by simpa using hd
        have HS2 : Aside0 (nearTo nb a (k + 1) = nearTo nb a k) := ⟨by rw [HS.out, hb, if_neg (by simp)]⟩
        clear hb hd
        go_wp2_with fail
        go_roundw
        case rel => exact ⟨k + 1, by go_num, by omega, ⟨by rw [HS2.out]; exact HD.out.1, HD.out.2⟩⟩
        case measure => simp [intOf]; omega
    · have hkn : k = n := by omega
      obtain ⟨h1, h2⟩ := HD.out
      obtain ⟨A, c, rfl⟩ := own_len h1
      have HR : Aside0 (RowI w wo (.returned (.slice A (nearTo nb a k).length c)) (nearTo nb a n)) := ⟨by rw [← hkn]; exact ⟨⟨A, c, rfl, h1⟩, h2⟩⟩
      clear h1 h2 hkn HD
      go_wp2_with fail
      go_ret
      exact HR.out
end Go.Proofs.Ytbpppchkgjcahaa
end
section
namespace Go.Proofs.Ytbpppchkgjcahaa
open Go.RowKit Go.Shelf Go.Proofs.YtbpppchkgjcahaaW.PrintWords Go.Proofs.YtbpppchkgjcahaaW.PrintMore
set_option linter.unusedVariables false
set_option linter.unusedSimpArgs false
structure QAt (W : World) (base : Nat) (av : Nat → Prop) (g off cap : Nat) (q : List Nat) : Prop where
  base_ : base ≤ g
  free : ¬ av g
  fits : q.length ≤ cap
  blk : ∃ cs : Array Value, W.heap[g]? = some (.cells cs 3 (0, 0)) ∧ off + cap ≤ cs.size ∧ ∀ j (hj : j < q.length), cs[off + j]? = some (.int .i64 ((q[j] : Nat) : Int))
theorem QAt.lt {W : World} {base : Nat} {av : Nat → Prop} {g off cap : Nat} {q : List Nat} (h : QAt W base av g off cap q) : g < W.heap.size := by
  obtain ⟨cs, hc, _⟩ := h.blk
  exact (Array.getElem?_eq_some_iff.1 hc).1
theorem QAt.keep {W W' : World} {base : Nat} {av : Nat → Prop} {g off cap : Nat} {q : List Nat} (h : QAt W base av g off cap q) (hk : W'.heap[g]? = W.heap[g]?) : QAt W' base av g off cap q :=
  ⟨h.base_, h.free, h.fits, by obtain ⟨cs, h1, h2⟩ := h.blk; exact ⟨cs, by rw [hk]; exact h1, h2⟩⟩
theorem QAt.below {W W' : World} {base : Nat} {av : Nat → Prop} {g off cap : Nat} {q : List Nat} (h : QAt W base av g off cap q) (hb : Below W.heap.size W W') : QAt W' base av g off cap q := h.keep (hb.block _ h.lt)
theorem QAt.avoid {W : World} {base : Nat} {av av' : Nat → Prop} {g off cap : Nat} {q : List Nat} (h : QAt W base av g off cap q) (hf : ¬ av' g) : QAt W base av' g off cap q := ⟨h.base_, hf, h.fits, h.blk⟩
theorem QAt.cell {W : World} {base : Nat} {av : Nat → Prop} {g off cap : Nat} {q : List Nat} (h : QAt W base av g off cap q) {j : Nat} (hj : j < q.length) : W.cell? ⟨g, off + j, none⟩ = some (.int .i64 ((q[j] : Nat) : Int)) := by
  obtain ⟨cs, h1, h2, h3⟩ := h.blk
  rw [Lib.cell_of_heap h1]; exact h3 j hj
theorem QAt.head {W : World} {base : Nat} {av : Nat → Prop} {g off cap : Nat} {x : Nat} {q : List Nat} (h : QAt W base av g off cap (x :: q)) : W.cell? ⟨g, off, none⟩ = some (.int .i64 (x : Int)) := h.cell (j := 0) (by simp)
theorem QAt.tail {W : World} {base : Nat} {av : Nat → Prop} {g off cap : Nat} {x : Nat} {q : List Nat} (h : QAt W base av g off (cap + 1) (x :: q)) : QAt W base av g (off + 1) cap q := by
  obtain ⟨cs, h1, h2, h3⟩ := h.blk
  have hf := h.fits
  rw [List.length_cons] at hf
  exact ⟨h.base_, h.free, by omega, cs, h1, by omega, fun j hj => by
    have := h3 (j + 1) (by rw [List.length_cons]; omega)
    rw [List.getElem_cons_succ] at this
    rw [← this]
    congr 1
    omega⟩
theorem QAt.one {W : World} {base : Nat} {av : Nat → Prop} (x : Nat) (hb : base ≤ W.heap.size) (hf : ¬ av W.heap.size) : QAt (W.alloc (.cells #[.int .i64 (x : Int)] 3)) base av W.heap.size 0 1 [x] :=
  ⟨hb, hf, by simp, _, heap_alloc_new W _, by simp, fun j hj => by
    obtain rfl : j = 0 := by simpa using hj
    rfl⟩
theorem int_info : (Try.prog.info? 3).map (fun i => (i.zero, i.size, i.bytes)) = some (some (.int .i64 0), 1, 8) := by kernel_rfl
theorem app_q {ops : Array Oper} {rest : List Oper} {o : Oper} {a : Act} {Q : Exit → Act → World → Prop} {w0 W : World} (base : Nat) (hgd : o.guard = none) (s x : Operand)
    (ho : o.op = .call { callee := .builtin .append, args := #[s, x], argTypes := #[34, 34] })
    (av : Nat → Prop) (g off cap m : Nat) (q : List Nat) (b : Nat) (hm : m = q.length) (hs : a.eval s = .slice (some ⟨g, off, none⟩) m cap) (hx : a.eval x = .slice (some ⟨W.heap.size, 0, none⟩) 1 1)
    (HQ : QAt W base av g off cap q) (HB : Below base w0 W) (hbase : base ≤ W.heap.size) (hav : ∀ j, av j → j < W.heap.size) (hl : q.length ≤ 1000)
    (h : ∀ g1 off1 cap1 w1, QAt w1 base av g1 off1 cap1 (q ++ [b]) → Below base w0 w1 → W.heap.size ≤ w1.heap.size → (∀ j, av j → w1.heap[j]? = W.heap[j]?) → (off1 = off ∨ off1 = 0) → wpList Try.prog ops Q rest (a.put o.dst (.slice (some ⟨g1, off1, none⟩) (m + 1) cap1)) w1) :
    wpList Try.prog ops Q (o :: rest) a (W.alloc (.cells #[.int .i64 (b : Int)] 3)) := by
  subst hm
  obtain ⟨i0, hi, hz0, hz1, hz2⟩ := info_parts int_info
  obtain ⟨cs, c1, c2, c3⟩ := HQ.blk
  have hlt := HQ.lt
  have hfit := HQ.fits
  have hkeep : (W.alloc (.cells #[.int .i64 (b : Int)] 3)).heap[g]? = some (.cells cs 3 (0, 0)) := (Below.heap_alloc _ _ _ hlt).trans c1
  have hnew := heap_alloc_new W (.cells #[.int .i64 (b : Int)] 3)
  have holds : ∀ j u, (q.map fun y : Nat => Value.int .i64 (y : Int))[j]? = some u → (W.alloc (.cells #[.int .i64 (b : Int)] 3)).cell? ⟨g, off + j, none⟩ = some u := by
    intro j u hu
    rw [List.getElem?_map] at hu
    obtain ⟨y, hy, rfl⟩ := Option.map_eq_some_iff.1 hu
    obtain ⟨hj, e⟩ := List.getElem?_eq_some_iff.1 hy
    rw [Lib.cell_of_heap hkeep, c3 j hj, e]
  refine wpList_append_arg (W.alloc (.cells #[.int .i64 (b : Int)] 3)) hgd s x 34 ho 3 i0 (.int .i64 0) 1 8 Try.underlying34 hi hz0 hz1 hz2 rfl (by omega) g off q.length cap (q.map fun y : Nat => Value.int .i64 (y : Int)) hs (by simp) holds ⟨W.heap.size, 0, none⟩ 1 1 [.int .i64 (b : Int)] hx rfl (fun j u hu => ?_) (fun u hu => by obtain rfl := List.mem_singleton.1 hu; rfl) (fun hr j hj => ?_) (by simp only [maxLen]; omega) (by omega) (fun hr => ?_) (fun hr v' w' hown hg => ?_)
  · have hj : j = 0 := by
      by_cases e : j = 0
      · exact e
      · rw [List.getElem?_eq_none (by simp; omega)] at hu; cases hu
    subst hj
    have hu' : Value.int .i64 (b : Int) = u := by simpa using hu
    subst hu'
    exact Lib.cell_of_heap hnew 0
  · obtain rfl : j = 0 := by simpa using hj
    refine ⟨?_, Lib.frozen_of_heap hkeep _⟩
    rw [Lib.cell_of_heap hkeep, Nat.add_zero, Nat.mul_one, Array.getElem?_eq_getElem (by omega)]
    rfl
  · rw [Nat.mul_one]
    have hset := blk_set hkeep (off + q.length) (.int .i64 (b : Int))
    refine h g off cap _ ⟨HQ.base_, HQ.free, by rw [List.length_append]; exact hr, _, hset, by rw [Array.size_setIfInBounds]; exact c2, fun j hj => ?_⟩ ?_ ?_ ?_ (.inl rfl)
    · rw [List.length_append, List.length_singleton] at hj
      rw [Array.getElem?_setIfInBounds]
      by_cases e : j = q.length
      · subst e
        rw [if_pos rfl, if_pos (by omega), List.getElem_append_right (Nat.le_refl _)]
        simp
      · rw [if_neg (by omega), List.getElem_append_left (by omega)]
        exact c3 j (by omega)
    · exact Below.setCell (p := ⟨g, off + q.length, none⟩) (HB.alloc hbase _) HQ.base_ _
    · show W.heap.size ≤ ((W.alloc (.cells #[.int .i64 (b : Int)] 3)).setCell ⟨g, off + q.length, none⟩ (.int .i64 (b : Int))).heap.size
      rw [World.size_setCell]; simp
    · intro j hj
      have hjg : j ≠ g := fun e => HQ.free (e ▸ hj)
      show ((W.alloc (.cells #[.int .i64 (b : Int)] 3)).setCell ⟨g, off + q.length, none⟩ (.int .i64 (b : Int))).heap[j]? = _
      rw [Below.heap_setCell _ _ _ _ hjg, Below.heap_alloc _ _ _ (hav j hj)]
  · obtain ⟨hlen, hv⟩ := hown
    rcases hv with ⟨_, e0⟩ | ⟨g1, cap1, cur, e, hg1, hh, hc, hm, hsz, htk⟩
    · omega
    · subst e
      have hg1' : W.heap.size ≤ g1 := by simp at hg1; omega
      refine h g1 0 cap1 w' ⟨by omega, fun hh => by have := hav _ hh; omega, by rw [List.length_append]; exact hc, cur, hh, by omega, fun j hj => ?_⟩ ?_ (by have := hg.size; simp at this; omega) (fun j hj => ?_) (.inr rfl)
      · rw [List.length_append, List.length_singleton] at hj
        rw [Nat.zero_add, Array.getElem?_toList.symm]
        have h2 : (cur.toList.take ((q.length + 1) * 1))[j]? = cur.toList[j]? := List.getElem?_take_of_lt (by omega)
        rw [← h2, htk]
        have e3 : (q.map fun y : Nat => Value.int .i64 (y : Int)) ++ [Value.int .i64 (b : Int)] = (q ++ [b]).map fun y : Nat => Value.int .i64 (y : Int) := by simp
        rw [e3, List.getElem?_map, List.getElem?_eq_getElem (by simp; omega)]
        rfl
      · exact (HB.alloc hbase _).grown hg (by simp; omega) (fun k hk => by cases hk)
      · rw [hg.block j (by have := hav j hj; simp; omega) (by simp), Below.heap_alloc _ _ _ (hav j hj)]
end Go.Proofs.Ytbpppchkgjcahaa
end
section
namespace Go.Proofs.Ytbpppchkgjcahaa
open Go.RowKit Go.Shelf Go.Proofs.YtbpppchkgjcahaaW.PrintWords Go.Proofs.YtbpppchkgjcahaaW.PrintMore
set_option linter.unusedVariables false
set_option linter.unusedSimpArgs false
end Go.Proofs.Ytbpppchkgjcahaa
end
section
namespace Go.Proofs.Ytbpppchkgjcahaa
open Go.RowKit Go.Shelf Go.Proofs.YtbpppchkgjcahaaW.PrintWords Go.Proofs.YtbpppchkgjcahaaW.PrintMore
set_option linter.unusedVariables false
set_option linter.unusedSimpArgs false
def NumsW (W : World) (g n : Nat) (o : Nat → Int) : Prop := W.heap[g]? = some (.cells ((List.range n).map fun x => Value.int .i64 (o x)).toArray 3 (0, 0))
def setN (o : Nat → Int) (b : Nat) (v : Int) : Nat → Int := fun x => if x = b then v else o x
theorem NumsW.at {W : World} {g n : Nat} {o : Nat → Int} (h : NumsW W g n o) {b : Nat} (hb : b < n) : W.cell? ⟨g, b, none⟩ = some (.int .i64 (o b)) ∧ W.frozen? ⟨g, b, none⟩ = false := by
  refine ⟨?_, Lib.frozen_of_heap h b⟩
  rw [Lib.cell_of_heap h]
  simp [List.getElem?_range hb]
theorem NumsW.set {W : World} {g n : Nat} {o : Nat → Int} (h : NumsW W g n o) {b : Nat} (hb : b < n) (v : Int) : NumsW (W.setCell ⟨g, b, none⟩ (.int .i64 v)) g n (setN o b v) := by
  have h' : W.heap[g]? = _ := h
  have h1 : (W.setCell ⟨g, b, none⟩ (.int .i64 v)).heap[g]? = some (.cells (((List.range n).map fun x => Value.int .i64 (o x)).toArray.setIfInBounds b (.int .i64 v)) 3 (0, 0)) := by
    simp only [World.setCell, Array.getElem?_modify, if_pos rfl, h']
    rfl
  unfold NumsW
  rw [h1]
  congr 2
  apply Array.ext_getElem?
  intro j
  simp only [Array.getElem?_setIfInBounds, List.getElem?_toArray, List.getElem?_map, List.size_toArray, List.length_map, List.length_range]
  by_cases e : b = j
  · subst e
    rw [if_pos rfl, if_pos hb, List.getElem?_range hb]
    simp [setN]
  · rw [if_neg e]
    by_cases hj : j < n
    · rw [List.getElem?_range hj]
      simp [setN, show ¬ j = b from fun x => e x.symm]
    · rw [List.getElem?_eq_none (by simp; omega)]; rfl
end Go.Proofs.Ytbpppchkgjcahaa
end
section
namespace Go.Proofs.Ytbpppchkgjcahaa
open Go.RowKit Go.Shelf Go.Proofs.YtbpppchkgjcahaaW.PrintWords Go.Proofs.YtbpppchkgjcahaaW.PrintMore
set_option linter.unusedVariables false
set_option linter.unusedSimpArgs false
end Go.Proofs.Ytbpppchkgjcahaa
end
section
namespace Go.Proofs.Ytbpppchkgjcahaa
open Go.RowKit Go.Shelf Go.Proofs.YtbpppchkgjcahaaW.PrintWords Go.Proofs.YtbpppchkgjcahaaW.PrintMore
set_option linter.unusedVariables false
set_option linter.unusedSimpArgs false
theorem nearTo_get {nb : Nat → Nat → Bool} {a n k : Nat} (hk : k < (nearTo nb a n).length) : ∃ hk' : k < (nearL nb n a).length, (nearTo nb a n)[k] = (((nearL nb n a)[k] : Nat) : Int) := by
  unfold nearTo at hk ⊢
  rw [List.length_map] at hk
  exact ⟨hk, by rw [List.getElem_map]⟩
def RowC (W : World) (A : Option Addr) (xs : List Int) : Prop := ∀ k (hk : k < xs.length), ∃ gr, A = some ⟨gr, 0, none⟩ ∧ W.cell? ⟨gr, k, none⟩ = some (.int .i64 xs[k])
theorem RowC.keep {W W' : World} {A : Option Addr} {xs : List Int} (h : RowC W A xs) (hk : ∀ j, A = some ⟨j, 0, none⟩ → W'.heap[j]? = W.heap[j]?) : RowC W' A xs := fun k hkl => by
  obtain ⟨gr, e, hc⟩ := h k hkl
  exact ⟨gr, e, by rw [World.cell?_of_block (w := W) (hk gr e)]; exact hc⟩
theorem rowC_own {W : World} {base : Nat} {A : Option Addr} {c : Nat} {xs : List Int} (h : W.ownsRow base 3 1 (.slice A xs.length c) xs.length (nums .i64 xs)) : RowC W A xs := fun k hk => by
  obtain ⟨g, rfl, _, _, _, _, hH⟩ := own_holds h (by omega)
  refine ⟨g, rfl, ?_⟩
  have := (hH k (by simpa using hk)).1
  rw [Nat.zero_add] at this
  rw [this]
  congr 2
  rw [getElem!_pos _ k (by simpa using hk)]
  simp
theorem NumsW.keep {W W' : World} {g n : Nat} {o : Nat → Int} (h : NumsW W g n o) (hk : W'.heap[g]? = W.heap[g]?) : NumsW W' g n o := by
  unfold NumsW at h ⊢
  rw [hk]; exact h
theorem NumsW.lt {W : World} {g n : Nat} {o : Nat → Int} (h : NumsW W g n o) : g < W.heap.size := (Array.getElem?_eq_some_iff.1 h).1
end Go.Proofs.Ytbpppchkgjcahaa
end
section
namespace Go.Proofs.Ytbpppchkgjcahaa
open Go.RowKit Go.Shelf Go.Proofs.YtbpppchkgjcahaaW.PrintWords Go.Proofs.YtbpppchkgjcahaaW.PrintMore
set_option linter.unusedVariables false
set_option linter.unusedSimpArgs false
noncomputable def nbP (p : List ByteArray) : Nat → Nat → Bool := nbB (clP p) p.length (wdP p)
def roomN (p : List ByteArray) : Nat := (boxesP p).length
def inR (p : List ByteArray) (a : Int) : Bool := decide (0 ≤ a) && decide (a < (roomN p : Int))
theorem inR_iff {p : List ByteArray} {a : Int} : inR p a = true ↔ ∃ m : Nat, a = (m : Int) ∧ m < roomN p := by
  unfold inR
  rw [Bool.and_eq_true, decide_eq_true_iff, decide_eq_true_iff]
  constructor
  · rintro ⟨h1, h2⟩; exact ⟨a.toNat, by omega, by omega⟩
  · rintro ⟨m, rfl, h⟩; omega
theorem touchP_any (p : List ByteArray) (hpl : planG p = true) (fb : Nat) (w : World) (hf : FloorR w fb p.length (wdP p) (clP p) (boxesP p)) :
    Calls Try.prog 81 #[.pointer (some ⟨fb, 0, none⟩)] w fun e w' => TouchW w w' (roomN p) (nbP p) e :=
  touching_any fb p.length (wdP p) (clP p) (boxesP p) (planFlat hpl).high (planFlat hpl).wide ⟨by
    obtain ⟨q, hq, _⟩ := (planFlat hpl).num 0 0 (by have := (planFlat hpl).high; omega) (by have := (planFlat hpl).wide; omega)
    omega, (planFlat hpl).few⟩ (fun i j hi hj => (planFlat hpl).num i j hi hj) w hf
theorem roomN_pos {p : List ByteArray} (hpl : planG p = true) : 1 ≤ roomN p ∧ roomN p ≤ 9 := ⟨by
  obtain ⟨q, hq, _⟩ := (planFlat hpl).num 0 0 (by have := (planFlat hpl).high; omega) (by have := (planFlat hpl).wide; omega)
  unfold roomN; omega, (planFlat hpl).few⟩
set_option maxHeartbeats 4000000 in
theorem hasRoom_any (p : List ByteArray) (fb : Nat) (w : World) (hf : FloorR w fb p.length (wdP p) (clP p) (boxesP p)) (a : Int) :
    Calls Try.prog 128 #[.pointer (some ⟨fb, 0, none⟩), .int .i64 a] w fun e w' => e = .returned (.bool (inR p a)) ∧ Below w.heap.size w w' := by
  obtain ⟨g0, rb0, RA, rc, h1, h2, h3, h4, h5, h6⟩ := hf
  obtain ⟨n, hn⟩ : ∃ n, roomN p = n := ⟨_, rfl⟩
  have hn' : (boxesP p).length = n := hn
  rw [hn'] at h4
  have HE : Aside0 (inR p a = (decide (0 ≤ a) && decide (a < (n : Int)))) := ⟨by unfold inR; rw [hn]⟩
  clear h1 h2 h3 h5 h6 hn hn'
  by_cases c1 : 0 ≤ a
  · have HE2 : Aside0 (inR p a = decide (a < (n : Int))) := ⟨by rw [HE.out, decide_eq_true c1, Bool.true_and]⟩
    have c1' : a ≥ 0 := c1
    by_cases c2 : a < (n : Int)
    · have HE3 : Aside0 (inR p a = true) := ⟨by rw [HE2.out, decide_eq_true c2]⟩
      go_enter Try.func128, Try.ntmps128
      go_wp2
      go_ret
      exact ⟨by rw [HE3.out]; rfl, Below.refl _ _⟩
    · have HE3 : Aside0 (inR p a = false) := ⟨by rw [HE2.out, decide_eq_false c2]⟩
      go_enter Try.func128, Try.ntmps128
      go_wp2
      go_ret
      exact ⟨by rw [HE3.out]; rfl, Below.refl _ _⟩
  · have HE3 : Aside0 (inR p a = false) := ⟨by rw [HE.out, decide_eq_false c1, Bool.false_and]⟩
    have c1' : ¬ a ≥ 0 := c1
    go_enter Try.func128, Try.ntmps128
    go_wp2
    go_ret
    exact ⟨by rw [HE3.out]; rfl, Below.refl _ _⟩
def PairE (w w' : World) (p : List ByteArray) (a b : Int) (e : Ending) : Prop := Below w.heap.size w w' ∧
  ((planG p = true ∧ inR p a = true ∧ inR p b = true ∧ ∃ fb g rb T, e = .returned (.tuple #[.pointer (some ⟨fb, 0, none⟩), .slice (some ⟨g, 0, none⟩) (roomN p) (roomN p), .bool true]) ∧ IntsW w' g (roomN p) rb T ∧ (∀ a b, decide (0 < T a b) = nbP p a b)) ∨
   ((planG p && inR p a && inR p b) = false ∧ e = .returned (.tuple #[.pointer none, .slice none 0 0, .bool false])))
set_option maxHeartbeats 8000000 in
theorem pair_any (A : Option Addr) (cap : Nat) (p : List ByteArray) (hp : SmallP p) (a b : Int) (w : World) (hr0 : Kd.C Kd.string w A p.length p) (hc0 : p.length ≤ cap) :
    Calls Try.prog 74 #[.slice A p.length cap, .int .i64 a, .int .i64 b] w fun e w' => PairE w w' p a b e := by
  have HFL := floorOf_any A cap p hp.1 hp.2 w hr0 hc0
  clear hr0
  go_enter Try.func74, Try.ntmps74
  go_wp2_with fail
  refine HFL.mono ?_
  rintro e w1 ⟨hb1, ⟨hpl, fb, base, rfl, hbase, hfl⟩ | ⟨hpl, o, rfl⟩⟩
  · have HB1 := Aside0.mk hb1
    have hfr := hfl.reads
    have HHA := Aside0.mk (fun W (hW : Below w1.heap.size w1 W) x => hasRoom_any p fb W (hfr.below hW) x)
    have HTO := Aside0.mk (fun W (hW : Below w1.heap.size w1 W) => touchP_any p hpl fb W (hfr.below hW))
    have HPL := Aside0.mk hpl
    clear hb1 hpl hfl hfr
    go_wp2_with fail
    refine (HHA.out _ (Below.refl _ _) a).mono ?_
    rintro e w2 ⟨rfl, hb2⟩
    have HB2 := Aside0.mk hb2
    clear hb2
    cases ha : inR p a with
    | false =>
      have HP : Aside0 (PairE w w2 p a b (.returned (.tuple #[.pointer none, .slice none 0 0, .bool false]))) := ⟨⟨HB1.out.trans (HB2.out.mono HB1.out.size), .inr ⟨by rw [ha]; simp, rfl⟩⟩⟩
      clear ha
      go_wp2_with fail
      first | go_ret3 | go_ret2 | go_ret
      exact HP.out
    | true =>
      have HA := Aside0.mk ha
      clear ha
      go_wp2_with fail
      refine (HHA.out _ HB2.out b).mono ?_
      rintro e w3 ⟨rfl, hb3⟩
      have HB3 := Aside0.mk (HB2.out.trans (hb3.mono HB2.out.size))
      clear hb3
      cases hb : inR p b with
      | false =>
        have HP : Aside0 (PairE w w3 p a b (.returned (.tuple #[.pointer none, .slice none 0 0, .bool false]))) := ⟨⟨HB1.out.trans (HB3.out.mono HB1.out.size), .inr ⟨by rw [hb]; simp, rfl⟩⟩⟩
        clear hb
        go_wp2_with fail
        first | go_ret3 | go_ret2 | go_ret
        exact HP.out
      | true =>
        have HBB := Aside0.mk hb
        clear hb
        go_wp2_with fail
        refine (HTO.out _ HB3.out).mono ?_
        rintro e w4 ⟨g, rb, T, rfl, hI, hT, hb4⟩
        have HP : Aside0 (PairE w w4 p a b (.returned (.tuple #[.pointer (some ⟨fb, 0, none⟩), .slice (some ⟨g, 0, none⟩) (roomN p) (roomN p), .bool true]))) := ⟨⟨HB1.out.trans ((HB3.out.trans (hb4.mono HB3.out.size)).mono HB1.out.size), .inl ⟨HPL.out, HA.out, HBB.out, fb, g, rb, T, rfl, hI, hT⟩⟩⟩
        clear hI hT hb4
        go_wp2_with fail
        first | go_ret3 | go_ret2 | go_ret
        exact HP.out
  · have HP : Aside0 (PairE w w1 p a b (.returned (.tuple #[.pointer none, .slice none 0 0, .bool false]))) := ⟨⟨hb1, .inr ⟨by rw [hpl]; simp, rfl⟩⟩⟩
    clear hb1 hpl
    go_wp2_with fail
    first | go_ret3 | go_ret2 | go_ret
    exact HP.out
end Go.Proofs.Ytbpppchkgjcahaa
end
section
namespace Go.Proofs.Ytbpppchkgjcahaa
open Go.RowKit Go.Shelf Go.Proofs.YtbpppchkgjcahaaW.PrintWords Go.Proofs.YtbpppchkgjcahaaW.PrintMore
set_option linter.unusedVariables false
set_option linter.unusedSimpArgs false
def twoRooms (p : List ByteArray) (a b : Int) : Bool := planG p && inR p a && inR p b && !decide (a = b)
set_option maxHeartbeats 8000000 in
theorem nearLength_any (A : Option Addr) (cap : Nat) (p : List ByteArray) (hp : SmallP p) (a b : Int) (w : World) (hr0 : Kd.C Kd.string w A p.length p) (hc0 : p.length ≤ cap) :
    Calls Try.prog 88 #[.slice A p.length cap, .int .i64 a, .int .i64 b] w fun e w' => (∃ t, e = .returned (.tuple #[.int .i64 t, .bool (twoRooms p a b)]) ∧ (twoRooms p a b = true → decide (0 < t) = nbP p a.toNat b.toNat)) ∧ Below w.heap.size w w' := by
  have HFL := pair_any A cap p hp a b w hr0 hc0
  clear hr0
  go_enter Try.func88, Try.ntmps88
  go_wp2_with fail
  refine HFL.mono ?_
  rintro e w1 ⟨hb1, ⟨hpl, ha, hb, fb, g, rb, T, rfl, hI, hT⟩ | ⟨hno, rfl⟩⟩
  · obtain ⟨x, rfl, hx⟩ := inR_iff.1 ha
    obtain ⟨y, rfl, hy⟩ := inR_iff.1 hb
    have hn := roomN_pos hpl
    have HB1 := Aside0.mk hb1
    have HT := Aside0.mk (hT x y)
    by_cases hxy : x = y
    · have HV : Aside0 (twoRooms p (x : Int) (y : Int) = false) := ⟨by unfold twoRooms; rw [decide_eq_true (show (x : Int) = (y : Int) by omega)]; simp⟩
      have hxy2 : ((x : Int) == (y : Int)) = true := by rw [beq_iff_eq]; omega
      clear hpl ha hb hI hT hb1 hxy
      go_wp2_with fail
      go_ret2
      exact ⟨⟨0, by rw [HV.out]; rfl, fun h => by rw [HV.out] at h; cases h⟩, HB1.out⟩
    · have HV : Aside0 (twoRooms p (x : Int) (y : Int) = true) := ⟨by unfold twoRooms; rw [hpl, ha, hb, decide_eq_false (show ¬ (x : Int) = (y : Int) by omega)]; rfl⟩
      have hxy2 : ((x : Int) == (y : Int)) = false := by rw [beq_eq_false_iff_ne]; omega
      obtain ⟨s1, _⟩ := hI.at hx hy
      have s2 := hI.cell hx
      obtain ⟨n, hnn⟩ : ∃ n, roomN p = n := ⟨_, rfl⟩
      rw [hnn] at s2 hx hy hn ⊢
      have x0 : (0 : Int) ≤ (x : Int) := by omega
      have xn : (x : Int) < (n : Int) := by omega
      have y0 : (0 : Int) ≤ (y : Int) := by omega
      have yn : (y : Int) < (n : Int) := by omega
      obtain ⟨t, ht⟩ : ∃ t, T x y = t := ⟨_, rfl⟩
      rw [ht] at s1 HT
      clear hpl ha hb hI hT hb1 hxy hnn ht
      go_wp2_with fail
      go_ret2
      exact ⟨⟨t, by rw [HV.out]; rfl, fun _ => by rw [Int.toNat_natCast, Int.toNat_natCast]; exact HT.out⟩, HB1.out⟩
  · have HV : Aside0 (twoRooms p a b = false) := ⟨by unfold twoRooms; rw [hno]; rfl⟩
    have HB1 := Aside0.mk hb1
    clear hb1 hno
    go_wp2_with fail
    go_ret2
    exact ⟨⟨0, by rw [HV.out]; rfl, fun h => by rw [HV.out] at h; cases h⟩, HB1.out⟩
noncomputable def nearIsP (p : List ByteArray) (a b : Int) : Bool := twoRooms p a b && nbP p a.toNat b.toNat
set_option maxHeartbeats 8000000 in
theorem nearIs_any (A : Option Addr) (cap : Nat) (p : List ByteArray) (hp : SmallP p) (a b : Int) (w : World) (hr0 : Kd.C Kd.string w A p.length p) (hc0 : p.length ≤ cap) :
    Calls Try.prog 34 #[.slice A p.length cap, .int .i64 a, .int .i64 b] w fun e w' => e = .returned (.bool (nearIsP p a b)) ∧ Below w.heap.size w w' := by
  have HFL := nearLength_any A cap p hp a b w hr0 hc0
  clear hr0
  go_enter Try.func34, Try.ntmps34
  go_wp2_with fail
  refine HFL.mono ?_
  rintro e w1 ⟨⟨t, rfl, ht⟩, hb1⟩
  have HB1 := Aside0.mk hb1
  cases h2 : twoRooms p a b with
  | false =>
    have HV : Aside0 (nearIsP p a b = false) := ⟨by unfold nearIsP; rw [h2]; rfl⟩
    clear hb1 ht h2
    go_wp2_with fail
    go_ret
    exact ⟨by rw [HV.out]; rfl, HB1.out⟩
  | true =>
    have h3 := ht h2
    have HV : Aside0 (nearIsP p a b = decide (0 < t)) := ⟨by unfold nearIsP; rw [h2, ← h3]; rfl⟩
    clear hb1 ht h2 h3
    go_wp2_with fail
    go_ret
    exact ⟨by rw [HV.out]; rfl, HB1.out⟩
end Go.Proofs.Ytbpppchkgjcahaa
end
section
namespace Go.Proofs.Ytbpppchkgjcahaa
open Go.RowKit Go.Shelf Go.Proofs.YtbpppchkgjcahaaW.PrintWords Go.Proofs.YtbpppchkgjcahaaW.PrintMore
set_option linter.unusedVariables false
open Classical in
noncomputable def tot {α : Type} (g : Nat → Option α) : Option α := if h : ∃ r, Ev g r then some h.choose else none
theorem Ev.uniq {α : Type} {g : Nat → Option α} {r s : α} (h : Ev g r) (k : Ev g s) : r = s := by
  obtain ⟨a, h⟩ := h
  obtain ⟨b, k⟩ := k
  exact Option.some.inj ((h (a + b) (by omega)).symm.trans (k (a + b) (by omega)))
theorem tot_ev {α : Type} {g : Nat → Option α} {r : α} (h : Ev g r) : tot g = some r := by
  unfold tot
  rw [dif_pos ⟨r, h⟩]
  exact congrArg some (Ev.uniq (Exists.choose_spec (⟨r, h⟩ : ∃ r, Ev g r)) h)
theorem tot_ex {α : Type} {g : Nat → Option α} {r : α} (h : tot g = some r) : ∃ k, g k = some r := by
  unfold tot at h
  split at h
  · rename_i hx
    have := hx.choose_spec
    rw [Option.some.inj h] at this
    exact this.ex
  · cases h
noncomputable def spec_l1Rooms.f (l0 : List ByteArray) : Option (Int) := tot fun k => L2.spec_l1Rooms.f k l0
theorem spec_l1Rooms.calls (A0 : Option Addr) (c0 : Nat) (l0 : List ByteArray) (r : Int) (w : World) (hr0 : Kd.C Kd.string w A0 l0.length l0) (hc0 : l0.length ≤ c0) (h : spec_l1Rooms.f l0 = some r) :
    Calls Try.prog 65 #[.slice A0 l0.length c0] w fun e w' => e = .returned (.int .i64 r) ∧ Below w.heap.size w w' := by
  obtain ⟨k, hk⟩ := tot_ex h
  exact L2.spec_l1Rooms.calls k A0 c0 l0 r w hr0 hc0 hk
noncomputable def spec_l1Cells.f (l0 : List ByteArray) (a1 : Int) : Option (Int) := tot fun k => L2.spec_l1Cells.f k l0 a1
theorem spec_l1Cells.calls (A0 : Option Addr) (c0 : Nat) (l0 : List ByteArray) (a1 : Int) (r : Int) (w : World) (hr0 : Kd.C Kd.string w A0 l0.length l0) (hc0 : l0.length ≤ c0) (h : spec_l1Cells.f l0 a1 = some r) :
    Calls Try.prog 141 #[.slice A0 l0.length c0, .int .i64 a1] w fun e w' => e = .returned (.int .i64 r) ∧ Below w.heap.size w w' := by
  obtain ⟨k, hk⟩ := tot_ex h
  exact (L2.spec_l1Cells.calls k A0 c0 l0 a1 r w hr0 hc0 hk).mono fun e w' ⟨he, n, hw⟩ => ⟨he, by rw [hw]; exact pw_below_drewN (Below.refl _ _) _⟩
noncomputable def spec_l1Room.f (l0 : List ByteArray) (a1 : Int) : Option (Int × Int × Int × Int) := tot fun k => L2.spec_l1Room.f k l0 a1
theorem spec_l1Room.calls (A0 : Option Addr) (c0 : Nat) (l0 : List ByteArray) (a1 : Int) (r1 : Int) (r2 : Int) (r3 : Int) (r4 : Int) (w : World) (hr0 : Kd.C Kd.string w A0 l0.length l0) (hc0 : l0.length ≤ c0) (h : spec_l1Room.f l0 a1 = some (r1, r2, r3, r4)) :
    Calls Try.prog 140 #[.slice A0 l0.length c0, .int .i64 a1] w fun e w' => e = .returned (.tuple #[.int .i64 r1, .int .i64 r2, .int .i64 r3, .int .i64 r4]) ∧ Below w.heap.size w w' := by
  obtain ⟨k, hk⟩ := tot_ex h
  exact L2.spec_l1Room.calls k A0 c0 l0 a1 r1 r2 r3 r4 w hr0 hc0 hk
end Go.Proofs.Ytbpppchkgjcahaa
end
section
namespace Go.Proofs.Ytbpppchkgjcahaa
open Go.RowKit Go.Shelf Go.Proofs.YtbpppchkgjcahaaW.PrintWords Go.Proofs.YtbpppchkgjcahaaW.PrintMore
set_option linter.unusedVariables false
noncomputable def spec_l1Trans.f (l0 : List ByteArray) : Option (List ByteArray) := tot fun k => L3.spec_l1Trans.f k l0
theorem spec_l1Trans.calls (A0 : Option Addr) (c0 : Nat) (l0 : List ByteArray) (r : List ByteArray) (w : World) (hr0 : Kd.C Kd.string w A0 l0.length l0) (hc0 : l0.length ≤ c0) (h : spec_l1Trans.f l0 = some r) :
    Calls Try.prog 149 #[.slice A0 l0.length c0] w fun e w' => ∃ v : Value, e = .returned v ∧ Kd.R Kd.string 9 w' w.heap.size (fun _ => True) v r ∧ Below w.heap.size w w' := by
  obtain ⟨k, hk⟩ := tot_ex h
  exact L3.spec_l1Trans.calls k A0 c0 l0 r w hr0 hc0 hk
end Go.Proofs.Ytbpppchkgjcahaa
end
