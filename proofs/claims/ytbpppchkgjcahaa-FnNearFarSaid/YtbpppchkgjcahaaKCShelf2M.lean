/- Texts of this claim's, joined by a program: CShelf2, CTwo, CNear, CQueue, CWallMany, CNumsW, CRepeatV. -/
import Derived.Test.YtbpppchkgjcahaaKCShelfM
import Derived.Shelf.Strings.Builder1
import Derived.Shelf.Small.Wraps
import Derived.Shelf.Strings.BuilderF
import Derived.Shelf.Strings.BuilderK
import Derived.Shelf.Strings.Search1
import Derived.Shelf.Strings.Search2
import Derived.Shelf.Strings.Search3
import Derived.Shelf.Strings.Count
import Derived.Shelf.LaysM
import Derived.Shelf.Strings.Shaped
import Derived.Shelf.Sort.Plain
import Derived.Shelf.Bits.Mul64
import Derived.Shelf.Strings.BuilderCap
import Derived.Shelf.Slices.Turned
import Derived.Shelf.Slices.Equal
import Derived.Ground.Names2Prog
import Derived.Shelf.Slices.CompactI
import Derived.Shelf.Slices.SearchI
import Derived.Shelf.Slices.Empties2
import Derived.Test.YtbpppchkgjcahaaProg
import Derived.Test.YtbpppchkgjcahaaKCFloorRM
import Derived.Sort.OwnSortedInts
import Derived.Test.YtbpppchkgjcahaaKCTouch
import Derived.ArgAppend
import Derived.Test.YtbpppchkgjcahaaKCWalls
import Derived.Laws.IdiomCopy
import Derived.Deep.RegionHeld3
section
namespace Go.Proofs
open Go.Shelf
end Go.Proofs
end
section
namespace Go.Proofs.Ytbpppchkgjcahaa
open Go.RowKit Go.Shelf Go.Proofs.YtbpppchkgjcahaaW.PrintWords Go.Proofs.YtbpppchkgjcahaaW.PrintMore
set_option linter.unusedVariables false
set_option linter.unusedSimpArgs false
structure Two (W : World) (base : Nat) (v u : Value) (xs ys : List Int) : Prop where
  one : W.ownsRow base 3 1 v xs.length (nums .i64 xs)
  two : W.ownsRow base 3 1 u ys.length (nums .i64 ys)
  apart : ∀ j, v.ownBlock = some j → u.ownBlock ≠ some j
theorem Two.nil (W : World) (base : Nat) : Two W base (.slice none 0 0) (.slice none 0 0) [] [] := ⟨World.ownsRow_nil _ _ _ _, World.ownsRow_nil _ _ _ _, fun j h => by cases h⟩
theorem Two.below {W W' : World} {base : Nat} {v u : Value} {xs ys : List Int} (h : Two W base v u xs ys) (hb : Below W.heap.size W W') : Two W' base v u xs ys := ⟨pw_own_below h.one hb, pw_own_below h.two hb, h.apart⟩
def OwnI (W : World) (base : Nat) (A : Option Addr) (xs : List Int) : Prop := ∃ g, A = some ⟨g, 0, none⟩ ∧ base ≤ g ∧ g < W.heap.size ∧ ∀ k (hk : k < xs.length), W.cell? ⟨g, k, none⟩ = some (.int .i64 xs[k])
theorem OwnI.move {W W' : World} {base : Nat} {A : Option Addr} {xs : List Int} (h : OwnI W base A xs) (hs : W.heap.size ≤ W'.heap.size) (hm : ∀ g, base ≤ g → g < W.heap.size → W'.heap[g]? = W.heap[g]?) : OwnI W' base A xs := by
  obtain ⟨g, rfl, h1, h2, h3⟩ := h
  exact ⟨g, rfl, h1, by omega, fun k hk => by rw [World.cell?_of_block (w := W) (hm g h1 h2)]; exact h3 k hk⟩
theorem own_holds {W : World} {base : Nat} {A : Option Addr} {n c : Nat} {xs : List Int} (h : W.ownsRow base 3 1 (.slice A n c) xs.length (nums .i64 xs)) (h0 : 0 < xs.length) :
    ∃ g, A = some ⟨g, 0, none⟩ ∧ n = xs.length ∧ xs.length ≤ c ∧ base ≤ g ∧ g < W.heap.size ∧ Go.Sort.Holds (Value.int .i64) W g 0 xs.toArray := by
  rcases h.2 with ⟨_, e⟩ | ⟨g, cap, cur, e, hg, hh, hc, hm, hs, ht⟩
  · omega
  · injection e with e1 e2 e3
    subst e1 e2 e3
    refine ⟨g, rfl, rfl, hc, hg, (Array.getElem?_eq_some_iff.1 hh).1, holds_of_blockI hh ?_⟩
    rw [Nat.mul_one] at ht
    rw [ht]; rfl
end Go.Proofs.Ytbpppchkgjcahaa
end
section
namespace Go.Proofs.Ytbpppchkgjcahaa
open Go.RowKit Go.Shelf Go.Proofs.YtbpppchkgjcahaaW.PrintWords Go.Proofs.YtbpppchkgjcahaaW.PrintMore
set_option linter.unusedVariables false
set_option linter.unusedSimpArgs false
def nearTo (nb : Nat → Nat → Bool) (a k : Nat) : List Int := (nearL nb k a).map fun x : Nat => (x : Int)
theorem nearTo_succ (nb : Nat → Nat → Bool) (a k : Nat) : nearTo nb a (k + 1) = if nb a k then nearTo nb a k ++ [(k : Int)] else nearTo nb a k := by
  unfold nearTo nearL
  rw [List.range_succ, List.filter_append]
  cases h : nb a k
  · rw [List.filter_cons_of_neg (by simp [h])]; simp
  · rw [List.filter_cons_of_pos (by simp [h])]; simp
theorem nearTo_len (nb : Nat → Nat → Bool) (a k : Nat) : (nearTo nb a k).length ≤ k := by
  unfold nearTo nearL
  rw [List.length_map]
  exact Nat.le_trans (List.length_filter_le _ _) (by rw [List.length_range]; exact Nat.le_refl _)
def RowI (w w' : World) (e : Ending) (xs : List Int) : Prop := (∃ A c, e = .returned (.slice A xs.length c) ∧ w'.ownsRow w.heap.size 3 1 (.slice A xs.length c) xs.length (nums .i64 xs)) ∧ Below w.heap.size w w'
theorem own_len {W : World} {base : Nat} {v : Value} {xs : List Int} (h : W.ownsRow base 3 1 v xs.length (nums .i64 xs)) : ∃ A c, v = .slice A xs.length c := by
  rcases h.2 with ⟨e, e0⟩ | ⟨g, c, cur, e, _⟩
  · exact ⟨none, 0, by rw [e, e0]⟩
  · exact ⟨_, _, e⟩
set_option maxRecDepth 100000 in
set_option maxHeartbeats 8000000 in
theorem near_any (g n : Nat) (rb : Nat → Nat) (T : Nat → Nat → Int) (nb : Nat → Nat → Bool) (hn : n ≤ 9) (hT : ∀ a b, decide (0 < T a b) = nb a b) (a : Nat) (ha : a < n) (w : World) (hI : IntsW w g n rb T) :
    Calls Try.prog 78 #[.slice (some ⟨g, 0, none⟩) n n, .int .i64 (a : Int)] w fun e w' => RowI w w' e (nearTo nb a n) := by
  have HI := Aside0.mk hI
  have HT := Aside0.mk hT
  have c0 := hI.cell ha
  have a0 : (0 : Int) ≤ (a : Int) := by omega
  have an : (a : Int) < (n : Int) := by omega
  clear hI hT
  go_enter Try.func78, Try.ntmps78
  go_wp2
  go_loopw [5, 13] (fun v i wr => ∃ (k : Nat), i = .int .i64 k ∧ k ≤ n ∧ Aside0 (wr.ownsRow w.heap.size 3 1 v (nearTo nb a k).length (nums .i64 (nearTo nb a k)) ∧ Below w.heap.size w wr)) (fun _ i _ => n - (intOf i).toNat)
  case atStart => exact ⟨0, rfl, Nat.zero_le _, ⟨World.ownsRow_nil _ _ _ _, Below.refl _ _⟩⟩
  case round =>
    obtain ⟨k, rfl, hk, HD⟩ := hrel
    obtain ⟨wo, rfl⟩ : ∃ wo : World, wo = wr := ⟨_, rfl⟩
    by_cases hlt : (k : Int) < (n : Int)
    · obtain ⟨c1, _⟩ := (HI.out.below HD.out.2).at ha (show k < n by omega)
      have k0 : (0 : Int) ≤ (k : Int) := by omega
      have HS := Aside0.mk (nearTo_succ nb a k)
      have hd := HT.out a k
      cases hb : nb a k with
      | true =>
        rw [hb] at hd
        have h1 : (0 : Int) < T a k := by simpa using hd
        have HS2 : Aside0 (nearTo nb a (k + 1) = nearTo nb a k ++ [(k : Int)]) := ⟨by rw [HS.out, hb, if_pos rfl]⟩
        clear hb hd
        go_wp2_with (at_builtin; refine print_append_num (w0 := w) w.heap.size rfl (.tmp 20) (.tmp 22) 34 3 .i64 8 rfl Try.underlying34 (by kernel_rfl) (by omega) _ (nearTo nb a k) (k : Int) rfl rfl ?k1 HD.out.2 HD.out.2.size ?k2 ?_; (case k1 => exact HD.out.1); (case k2 => have := nearTo_len nb a k; omega); intro v1 w1 ho hB hg hat; have HT1 := Aside0.mk ho; have HB1 := Aside0.mk hB; clear ho hB hg hat)
        go_roundw
        case rel => exact ⟨k + 1, by go_num, by omega, ⟨by rw [HS2.out]; exact HT1.out, HB1.out⟩⟩
        case measure => simp [intOf]; omega
      | false =>
        rw [hb] at hd
        have h1 : ¬ (0 : Int) < T a k := by simpa using hd
        have HS2 : Aside0 (nearTo nb a (k + 1) = nearTo nb a k) := ⟨by rw [HS.out, hb, if_neg (by simp)]⟩
        clear hb hd
        go_wp2_with fail
        go_roundw
        case rel => exact ⟨k + 1, by go_num, by omega, ⟨by rw [HS2.out]; exact HD.out.1, HD.out.2⟩⟩
        case measure => simp [intOf]; omega
    · have hkn : k = n := by omega
      obtain ⟨h1, h2⟩ := HD.out
      obtain ⟨A, c, rfl⟩ := own_len h1
      have HR : Aside0 (RowI w wo (.returned (.slice A (nearTo nb a k).length c)) (nearTo nb a n)) := ⟨by rw [← hkn]; exact ⟨⟨A, c, rfl, h1⟩, h2⟩⟩
      clear h1 h2 hkn HD
      go_wp2_with fail
      go_ret
      exact HR.out
end Go.Proofs.Ytbpppchkgjcahaa
end
section
namespace Go.Proofs.Ytbpppchkgjcahaa
open Go.RowKit Go.Shelf Go.Proofs.YtbpppchkgjcahaaW.PrintWords Go.Proofs.YtbpppchkgjcahaaW.PrintMore
set_option linter.unusedVariables false
set_option linter.unusedSimpArgs false
structure QAt (W : World) (base : Nat) (av : Nat → Prop) (g off cap : Nat) (q : List Nat) : Prop where
  base_ : base ≤ g
  free : ¬ av g
  fits : q.length ≤ cap
  blk : ∃ cs : Array Value, W.heap[g]? = some (.cells cs 3 (0, 0)) ∧ off + cap ≤ cs.size ∧ ∀ j (hj : j < q.length), cs[off + j]? = some (.int .i64 ((q[j] : Nat) : Int))
theorem QAt.lt {W : World} {base : Nat} {av : Nat → Prop} {g off cap : Nat} {q : List Nat} (h : QAt W base av g off cap q) : g < W.heap.size := by
  obtain ⟨cs, hc, _⟩ := h.blk
  exact (Array.getElem?_eq_some_iff.1 hc).1
theorem QAt.keep {W W' : World} {base : Nat} {av : Nat → Prop} {g off cap : Nat} {q : List Nat} (h : QAt W base av g off cap q) (hk : W'.heap[g]? = W.heap[g]?) : QAt W' base av g off cap q :=
  ⟨h.base_, h.free, h.fits, by obtain ⟨cs, h1, h2⟩ := h.blk; exact ⟨cs, by rw [hk]; exact h1, h2⟩⟩
theorem QAt.below {W W' : World} {base : Nat} {av : Nat → Prop} {g off cap : Nat} {q : List Nat} (h : QAt W base av g off cap q) (hb : Below W.heap.size W W') : QAt W' base av g off cap q := h.keep (hb.block _ h.lt)
theorem QAt.avoid {W : World} {base : Nat} {av av' : Nat → Prop} {g off cap : Nat} {q : List Nat} (h : QAt W base av g off cap q) (hf : ¬ av' g) : QAt W base av' g off cap q := ⟨h.base_, hf, h.fits, h.blk⟩
theorem QAt.cell {W : World} {base : Nat} {av : Nat → Prop} {g off cap : Nat} {q : List Nat} (h : QAt W base av g off cap q) {j : Nat} (hj : j < q.length) : W.cell? ⟨g, off + j, none⟩ = some (.int .i64 ((q[j] : Nat) : Int)) := by
  obtain ⟨cs, h1, h2, h3⟩ := h.blk
  rw [Lib.cell_of_heap h1]; exact h3 j hj
theorem QAt.head {W : World} {base : Nat} {av : Nat → Prop} {g off cap : Nat} {x : Nat} {q : List Nat} (h : QAt W base av g off cap (x :: q)) : W.cell? ⟨g, off, none⟩ = some (.int .i64 (x : Int)) := h.cell (j := 0) (by simp)
theorem QAt.tail {W : World} {base : Nat} {av : Nat → Prop} {g off cap : Nat} {x : Nat} {q : List Nat} (h : QAt W base av g off (cap + 1) (x :: q)) : QAt W base av g (off + 1) cap q := by
  obtain ⟨cs, h1, h2, h3⟩ := h.blk
  have hf := h.fits
  rw [List.length_cons] at hf
  exact ⟨h.base_, h.free, by omega, cs, h1, by omega, fun j hj => by
    have := h3 (j + 1) (by rw [List.length_cons]; omega)
    rw [List.getElem_cons_succ] at this
    rw [← this]
    congr 1
    omega⟩
theorem QAt.tail1 {W : World} {base : Nat} {av : Nat → Prop} {g off : Nat} {x : Nat} (h : QAt W base av g off 1 [x]) : QAt W base av g off 0 [] := by
  obtain ⟨cs, h1, h2, h3⟩ := h.blk
  exact ⟨h.base_, h.free, Nat.zero_le _, cs, h1, by omega, fun j hj => by simp at hj⟩
theorem QAt.one {W : World} {base : Nat} {av : Nat → Prop} (x : Nat) (hb : base ≤ W.heap.size) (hf : ¬ av W.heap.size) : QAt (W.alloc (.cells #[.int .i64 (x : Int)] 3)) base av W.heap.size 0 1 [x] :=
  ⟨hb, hf, by simp, _, heap_alloc_new W _, by simp, fun j hj => by
    obtain rfl : j = 0 := by simpa using hj
    rfl⟩
theorem int_info : (Try.prog.info? 3).map (fun i => (i.zero, i.size, i.bytes)) = some (some (.int .i64 0), 1, 8) := by kernel_rfl
theorem app_q {ops : Array Oper} {rest : List Oper} {o : Oper} {a : Act} {Q : Exit → Act → World → Prop} {w0 W : World} (base : Nat) (hgd : o.guard = none) (s x : Operand)
    (ho : o.op = .call { callee := .builtin .append, args := #[s, x], argTypes := #[34, 34] })
    (av : Nat → Prop) (g off cap m : Nat) (q : List Nat) (b : Nat) (hm : m = q.length) (hs : a.eval s = .slice (some ⟨g, off, none⟩) m cap) (hx : a.eval x = .slice (some ⟨W.heap.size, 0, none⟩) 1 1)
    (HQ : QAt W base av g off cap q) (HB : Below base w0 W) (hbase : base ≤ W.heap.size) (hav : ∀ j, av j → j < W.heap.size) (hl : q.length ≤ 1000)
    (h : ∀ g1 off1 cap1 w1, QAt w1 base av g1 off1 cap1 (q ++ [b]) → Below base w0 w1 → W.heap.size ≤ w1.heap.size → (∀ j, av j → w1.heap[j]? = W.heap[j]?) → (off1 = off ∨ off1 = 0) → wpList Try.prog ops Q rest (a.put o.dst (.slice (some ⟨g1, off1, none⟩) (m + 1) cap1)) w1) :
    wpList Try.prog ops Q (o :: rest) a (W.alloc (.cells #[.int .i64 (b : Int)] 3)) := by
  subst hm
  obtain ⟨i0, hi, hz0, hz1, hz2⟩ := info_parts int_info
  obtain ⟨cs, c1, c2, c3⟩ := HQ.blk
  have hlt := HQ.lt
  have hfit := HQ.fits
  have hkeep : (W.alloc (.cells #[.int .i64 (b : Int)] 3)).heap[g]? = some (.cells cs 3 (0, 0)) := (Below.heap_alloc _ _ _ hlt).trans c1
  have hnew := heap_alloc_new W (.cells #[.int .i64 (b : Int)] 3)
  have holds : ∀ j u, (q.map fun y : Nat => Value.int .i64 (y : Int))[j]? = some u → (W.alloc (.cells #[.int .i64 (b : Int)] 3)).cell? ⟨g, off + j, none⟩ = some u := by
    intro j u hu
    rw [List.getElem?_map] at hu
    obtain ⟨y, hy, rfl⟩ := Option.map_eq_some_iff.1 hu
    obtain ⟨hj, e⟩ := List.getElem?_eq_some_iff.1 hy
    rw [Lib.cell_of_heap hkeep, c3 j hj, e]
  refine wpList_append_arg (W.alloc (.cells #[.int .i64 (b : Int)] 3)) hgd s x 34 ho 3 i0 (.int .i64 0) 1 8 Try.underlying34 hi hz0 hz1 hz2 rfl (by omega) g off q.length cap (q.map fun y : Nat => Value.int .i64 (y : Int)) hs (by simp) holds ⟨W.heap.size, 0, none⟩ 1 1 [.int .i64 (b : Int)] hx rfl (fun j u hu => ?_) (fun u hu => by obtain rfl := List.mem_singleton.1 hu; rfl) (fun hr j hj => ?_) (by simp only [maxLen]; omega) (by omega) (fun hr => ?_) (fun hr v' w' hown hg => ?_)
  · have hj : j = 0 := by
      by_cases e : j = 0
      · exact e
      · rw [List.getElem?_eq_none (by simp; omega)] at hu; cases hu
    subst hj
    have hu' : Value.int .i64 (b : Int) = u := by simpa using hu
    subst hu'
    exact Lib.cell_of_heap hnew 0
  · obtain rfl : j = 0 := by simpa using hj
    refine ⟨?_, Lib.frozen_of_heap hkeep _⟩
    rw [Lib.cell_of_heap hkeep, Nat.add_zero, Nat.mul_one, Array.getElem?_eq_getElem (by omega)]
    rfl
  · rw [Nat.mul_one]
    have hset := blk_set hkeep (off + q.length) (.int .i64 (b : Int))
    refine h g off cap _ ⟨HQ.base_, HQ.free, by rw [List.length_append]; exact hr, _, hset, by rw [Array.size_setIfInBounds]; exact c2, fun j hj => ?_⟩ ?_ ?_ ?_ (.inl rfl)
    · rw [List.length_append, List.length_singleton] at hj
      rw [Array.getElem?_setIfInBounds]
      by_cases e : j = q.length
      · subst e
        rw [if_pos rfl, if_pos (by omega), List.getElem_append_right (Nat.le_refl _)]
        simp
      · rw [if_neg (by omega), List.getElem_append_left (by omega)]
        exact c3 j (by omega)
    · exact Below.setCell (p := ⟨g, off + q.length, none⟩) (HB.alloc hbase _) HQ.base_ _
    · show W.heap.size ≤ ((W.alloc (.cells #[.int .i64 (b : Int)] 3)).setCell ⟨g, off + q.length, none⟩ (.int .i64 (b : Int))).heap.size
      rw [World.size_setCell]; simp
    · intro j hj
      have hjg : j ≠ g := fun e => HQ.free (e ▸ hj)
      show ((W.alloc (.cells #[.int .i64 (b : Int)] 3)).setCell ⟨g, off + q.length, none⟩ (.int .i64 (b : Int))).heap[j]? = _
      rw [Below.heap_setCell _ _ _ _ hjg, Below.heap_alloc _ _ _ (hav j hj)]
  · obtain ⟨hlen, hv⟩ := hown
    rcases hv with ⟨_, e0⟩ | ⟨g1, cap1, cur, e, hg1, hh, hc, hm, hsz, htk⟩
    · omega
    · subst e
      have hg1' : W.heap.size ≤ g1 := by simp at hg1; omega
      refine h g1 0 cap1 w' ⟨by omega, fun hh => by have := hav _ hh; omega, by rw [List.length_append]; exact hc, cur, hh, by omega, fun j hj => ?_⟩ ?_ (by have := hg.size; simp at this; omega) (fun j hj => ?_) (.inr rfl)
      · rw [List.length_append, List.length_singleton] at hj
        rw [Nat.zero_add, Array.getElem?_toList.symm]
        have h2 : (cur.toList.take ((q.length + 1) * 1))[j]? = cur.toList[j]? := List.getElem?_take_of_lt (by omega)
        rw [← h2, htk]
        have e3 : (q.map fun y : Nat => Value.int .i64 (y : Int)) ++ [Value.int .i64 (b : Int)] = (q ++ [b]).map fun y : Nat => Value.int .i64 (y : Int) := by simp
        rw [e3, List.getElem?_map, List.getElem?_eq_getElem (by simp; omega)]
        rfl
      · exact (HB.alloc hbase _).grown hg (by simp; omega) (fun k hk => by cases hk)
      · rw [hg.block j (by have := hav j hj; simp; omega) (by simp), Below.heap_alloc _ _ _ (hav j hj)]
end Go.Proofs.Ytbpppchkgjcahaa
end
section
namespace Go.Proofs.Ytbpppchkgjcahaa
open Go.RowKit Go.Shelf Go.Proofs.YtbpppchkgjcahaaW.PrintWords Go.Proofs.YtbpppchkgjcahaaW.PrintMore
set_option linter.unusedVariables false
set_option linter.unusedSimpArgs false
end Go.Proofs.Ytbpppchkgjcahaa
end
section
namespace Go.Proofs.Ytbpppchkgjcahaa
open Go.RowKit Go.Shelf Go.Proofs.YtbpppchkgjcahaaW.PrintWords Go.Proofs.YtbpppchkgjcahaaW.PrintMore
set_option linter.unusedVariables false
set_option linter.unusedSimpArgs false
def NumsW (W : World) (g n : Nat) (o : Nat → Int) : Prop := W.heap[g]? = some (.cells ((List.range n).map fun x => Value.int .i64 (o x)).toArray 3 (0, 0))
def setN (o : Nat → Int) (b : Nat) (v : Int) : Nat → Int := fun x => if x = b then v else o x
theorem NumsW.at {W : World} {g n : Nat} {o : Nat → Int} (h : NumsW W g n o) {b : Nat} (hb : b < n) : W.cell? ⟨g, b, none⟩ = some (.int .i64 (o b)) ∧ W.frozen? ⟨g, b, none⟩ = false := by
  refine ⟨?_, Lib.frozen_of_heap h b⟩
  rw [Lib.cell_of_heap h]
  simp [List.getElem?_range hb]
theorem NumsW.set {W : World} {g n : Nat} {o : Nat → Int} (h : NumsW W g n o) {b : Nat} (hb : b < n) (v : Int) : NumsW (W.setCell ⟨g, b, none⟩ (.int .i64 v)) g n (setN o b v) := by
  have h' : W.heap[g]? = _ := h
  have h1 : (W.setCell ⟨g, b, none⟩ (.int .i64 v)).heap[g]? = some (.cells (((List.range n).map fun x => Value.int .i64 (o x)).toArray.setIfInBounds b (.int .i64 v)) 3 (0, 0)) := by
    simp only [World.setCell, Array.getElem?_modify, if_pos rfl, h']
    rfl
  unfold NumsW
  rw [h1]
  congr 2
  apply Array.ext_getElem?
  intro j
  simp only [Array.getElem?_setIfInBounds, List.getElem?_toArray, List.getElem?_map, List.size_toArray, List.length_map, List.length_range]
  by_cases e : b = j
  · subst e
    rw [if_pos rfl, if_pos hb, List.getElem?_range hb]
    simp [setN]
  · rw [if_neg e]
    by_cases hj : j < n
    · rw [List.getElem?_range hj]
      simp [setN, show ¬ j = b from fun x => e x.symm]
    · rw [List.getElem?_eq_none (by simp; omega)]; rfl
end Go.Proofs.Ytbpppchkgjcahaa
end
section
namespace Go.Proofs.Ytbpppchkgjcahaa
open Go.RowKit Go.Shelf Go.Proofs.YtbpppchkgjcahaaW.PrintWords Go.Proofs.YtbpppchkgjcahaaW.PrintMore
set_option linter.unusedVariables false
set_option linter.unusedSimpArgs false
theorem below_setCells {g : Nat} {w : World} (vs : List Value) : ∀ (o : Nat) {W : World}, Below g w W → Below g w (W.setCells g o vs) := by
  induction vs with
  | nil => intro o W h; exact h
  | cons v vs ih => intro o W h; exact ih (o + 1) (Below.setCell (p := ⟨g, o, none⟩) h (Nat.le_refl _) v)
def onesTo (v : Int) (k : Nat) : Nat → Int := fun x => if x < k then v else 0
theorem ones_set {v : Int} {W : World} {g n k m : Nat} (h : NumsW W g n (onesTo v k)) (hk : k + m ≤ n) : NumsW (W.setCells g k (List.replicate m (Value.int .i64 v))) g n (onesTo v (k + m)) := by
  have h' : W.heap[g]? = some (.cells ((List.range n).map fun x => Value.int .i64 (onesTo v k x)).toArray 3 (0, 0)) := h
  obtain ⟨cur', p1, p2, p3⟩ := setCells_row (List.replicate m (Value.int .i64 v)) k W _ h' (by simp; omega)
  unfold NumsW
  rw [p1]
  congr 2
  apply Array.toList_inj.1
  rw [p3]
  apply List.ext_getElem?
  intro i
  simp only [List.length_replicate, List.toList_toArray]
  by_cases hi : i < n
  · rw [List.getElem?_map, List.getElem?_range hi]
    show _ = some (Value.int .i64 (onesTo v (k + m) i))
    by_cases c1 : i < k
    · rw [List.append_assoc, List.getElem?_append_left (by simp; omega), List.getElem?_take_of_lt c1, List.getElem?_map, List.getElem?_range hi]
      show some (Value.int .i64 (onesTo v k i)) = _
      unfold onesTo
      rw [if_pos c1, if_pos (by omega)]
    · by_cases c2 : i < k + m
      · rw [List.append_assoc, List.getElem?_append_right (by simp; omega), List.getElem?_append_left (by simp; omega), List.getElem?_replicate, if_pos (by simp; omega)]
        unfold onesTo
        rw [if_pos c2]
      · rw [List.getElem?_append_right (by simp; omega), List.getElem?_drop, List.getElem?_map, List.getElem?_range (by simp; omega)]
        show some (Value.int .i64 (onesTo v k _)) = _
        unfold onesTo
        rw [if_neg (by simp; omega), if_neg c2]
  · rw [List.getElem?_eq_none (by simp; omega), List.getElem?_eq_none (by simp; omega)]
set_option maxRecDepth 100000 in
set_option maxHeartbeats 8000000 in
theorem repeat_any (v : Int) (lb c n : Nat) (hn : 1 ≤ n ∧ n ≤ 9) (w : World) (hlb : lb < w.heap.size) (h1 : w.cell? ⟨lb, 0, none⟩ = some (.int .i64 v)) :
    Calls Try.prog 129 #[.slice (some ⟨lb, 0, none⟩) 1 c, .int .i64 n] w fun e w' => (∃ g, e = .returned (.slice (some ⟨g, 0, none⟩) n n) ∧ w.heap.size ≤ g ∧ NumsW w' g n (fun _ => v)) ∧ Below w.heap.size w w' := by
  have mk1 : ∀ W : World, (Instr.makeSlice 34 (.int .i64 (n : Int)) (.int .i64 (n : Int))).run Try.prog W = .ok (.slice (some ⟨W.heap.size, 0, none⟩) n n) (W.alloc (.cells (madeCells #[.int .i64 0] n) 3)) :=
    print_make 34 3 .i64 8 Try.underlying34 (by kernel_rfl) (by omega) n (by omega)
  have HM : Aside0 (∀ W : World, Calls Try.prog 181 #[.int .u64 1, .int .u64 n] W fun e w' => e = .returned (.tuple #[.int .u64 0, .int .u64 n]) ∧ w' = W) := ⟨fun W => by
    have := Try.bits_Mul 1 n (by omega) (by omega) W
    rw [show 1 * n / 18446744073709551616 = 0 by omega, show 1 * n % 18446744073709551616 = n by omega] at this
    exact this⟩
  have n0 : (0 : Int) ≤ (n : Int) := by omega
  have n1 : ¬ (n : Int) < 0 := by omega
  obtain ⟨W1, hW1⟩ : ∃ W1, W1 = w.alloc (.cells (madeCells #[.int .i64 0] n) 3) := ⟨_, rfl⟩
  obtain ⟨g, hg⟩ : ∃ g, w.heap.size = g := ⟨_, rfl⟩
  have hN1 : NumsW W1 g n (onesTo v 0) := by
    unfold NumsW
    rw [hW1, ← hg, heap_alloc_new, made_rep]
    congr 3
    have : (fun x => Value.int .i64 (onesTo v 0 x)) = fun _ => Value.int .i64 0 := by funext x; unfold onesTo; rw [if_neg (by omega)]
    rw [this, List.map_const', List.length_range]
  have HB1 : Aside0 (Below g w W1) := ⟨by rw [hW1, ← hg]; exact (Below.refl _ _).alloc (Nat.le_refl _) _⟩
  have hl1 : W1.cell? ⟨lb, 0, none⟩ = some (.int .i64 v) := (HB1.out.cell (p := ⟨lb, 0, none⟩) (by rw [← hg]; exact hlb)).trans h1
  have cp1 : (Builtin.copy_ #[34, 34] 3 #[.slice (some ⟨g, 0, none⟩) n n, .slice (some ⟨lb, 0, none⟩) 1 c]).run Try.prog W1 = .ok (.int .i64 1) (W1.setCells g 0 (List.replicate 1 (.int .i64 v))) :=
    run_copy_cells (P := Try.prog) W1 34 34 3 3 g 0 n n ⟨lb, 0, none⟩ 1 c [.int .i64 v] Try.underlying34 (by kernel_rfl) (by show 1 = min 1 n; omega) (fun j u hv => by
      have hj : j = 0 := by
        by_cases e : j = 0
        · exact e
        · rw [List.getElem?_eq_none (by simp; omega)] at hv; cases hv
      subst hj
      injection hv with hv
      subst hv
      exact hl1) (fun j hj => by
      have hj' : j < 1 := hj
      rw [Nat.zero_add, (hN1.at (b := j) (by omega)).1]; rfl) (fun j hj => by
      have hj' : j < 1 := hj
      rw [Nat.zero_add]; exact (hN1.at (b := j) (by omega)).2) (fun u hv => by
      obtain rfl := List.mem_singleton.1 hv
      rfl)
  have HN2 : Aside0 (NumsW (W1.setCells g 0 (List.replicate 1 (.int .i64 v))) g n (onesTo v (0 + 1)) ∧ Below g w (W1.setCells g 0 (List.replicate 1 (.int .i64 v)))) := ⟨ones_set hN1 (by omega), Below.setCell (p := ⟨g, 0, none⟩) HB1.out (Nat.le_refl _) _⟩
  rw [hW1, ← hg] at cp1
  have HG := Aside0.mk hg
  have HW1 := Aside0.mk hW1
  clear hN1 hl1 hg hW1
  go_enter Try.func129, Try.ntmps129
  go_wp2_with fail
  refine (HM.out w).mono ?_
  rintro e w ⟨rfl, rfl⟩
  go_wp2_with fail
  clear cp1 mk1
  have HS0 := HN2.out
  rw [HW1.out, ← HG.out] at HS0
  have HS0 := Aside0.mk HS0
  go_loopg [8] n (fun gg s8 wr => ∃ k : Nat, s8 = .int .i64 k ∧ 1 ≤ k ∧ k ≤ n ∧ n - k ≤ gg ∧ Aside0 (NumsW wr w.heap.size n (onesTo v k) ∧ Below w.heap.size w wr))
  case atStart => exact ⟨1, rfl, Nat.le_refl _, hn.1, by omega, HS0⟩
  case round =>
    obtain ⟨k, rfl, hk1, hk, hgg, HD⟩ := hrel
    by_cases hlt : (k : Int) < (n : Int)
    · have hkn : k < n := by omega
      have k0 : (0 : Int) ≤ (k : Int) := by omega
      obtain ⟨m, hm⟩ : ∃ m, min k (n - k) = m := ⟨_, rfl⟩
      have hm1 : 1 ≤ m ∧ k + m ≤ n := by omega
      have HCP : Aside0 (∀ W, NumsW W w.heap.size n (onesTo v k) → (Builtin.copy_ #[34, 34] 3 #[.slice (some ⟨w.heap.size, k, none⟩) (n - k) (n - k), .slice (some ⟨w.heap.size, 0, none⟩) k n]).run Try.prog W = .ok (.int .i64 m) (W.setCells w.heap.size k (List.replicate m (.int .i64 v)))) := ⟨fun W hW => by
        have := run_copy_cells (P := Try.prog) W 34 34 3 3 w.heap.size k (n - k) (n - k) ⟨w.heap.size, 0, none⟩ k n (List.replicate m (.int .i64 v)) Try.underlying34 (by kernel_rfl) (by rw [List.length_replicate]; show m = min k (n - k); exact hm.symm) (fun j u hv => by
          have hj : j < m := by
            by_cases e : j < m
            · exact e
            · rw [List.getElem?_eq_none (by simp; omega)] at hv; cases hv
          rw [List.getElem?_replicate, if_pos hj] at hv
          injection hv with hv
          subst hv
          have q := (hW.at (b := j) (by omega)).1
          unfold onesTo at q
          rw [if_pos (by omega)] at q
          unfold Addr.add
          by_cases e : j = 0
          · subst e; rw [if_pos rfl]; exact q
          · rw [if_neg e]
            show W.cell? ⟨w.heap.size, 0 + j, none⟩ = _
            rw [Nat.zero_add]; exact q) (fun j hj => by
          have hj' : j < m := by simpa using hj
          rw [(hW.at (b := k + j) (by omega)).1]; rfl) (fun j hj => by
          have hj' : j < m := by simpa using hj
          exact (hW.at (b := k + j) (by omega)).2) (fun u hv => by
          have := List.eq_of_mem_replicate hv
          subst this; rfl)
        rw [List.length_replicate] at this
        exact this⟩
      have HM2 := Aside0.mk hm
      clear hm
      go_wp2_with fail
      have cp2 := HCP.out (wr.drewN 1) HD.out.1
      have cp3 := HCP.out wr.drew HD.out.1
      have e1 : IntKind.i64.wrap ((k : Int) + (m : Int)) = (k : Int) + (m : Int) := by rw [IntKind.wrap_i64]; omega
      go_region_held3 (fun _ => True) (trivial) ((fail))
      clear e1
      go_wp2_with fail
      go_roundg (n - (k + m))
      case measure => omega
      case rel => exact ⟨k + m, by go_num, by omega, hm1.2, Nat.le_refl _, ⟨ones_set (W := wr.drewN 1) HD.out.1 hm1.2, below_setCells _ k (pw_below_drewN HD.out.2 1)⟩⟩
    · obtain rfl : k = n := by omega
      go_wp2_with fail
      go_ret
      refine ⟨⟨w.heap.size, rfl, Nat.le_refl _, ?_⟩, HD.out.2⟩
      have h := HD.out.1
      unfold NumsW at h ⊢
      rw [h]
      congr 3
      apply List.map_congr_left
      intro x hx
      unfold onesTo
      rw [if_pos (List.mem_range.1 hx)]
end Go.Proofs.Ytbpppchkgjcahaa
end
