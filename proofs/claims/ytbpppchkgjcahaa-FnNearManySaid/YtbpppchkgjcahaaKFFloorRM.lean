/- Texts of this claim's, joined by a program: FFloorR, FList, FPart, FCuts, FFirst, FText, FSpecCut, FSpecCutB, FPut, FFlat, FSpecText, FPlanFlat, FCutText, FStuck, FLetters, FSpecStuck, FCutStuckP, FPlanRoom, FSplit. -/
import Derived.Test.YtbpppchkgjcahaaKFShelfM
import Derived.RangeFuncBound
import Derived.Shelf.RegionOpen
import Derived.WalkKit
import Derived.TacticsInMore
import Derived.LoopNIn
import Derived.LoopIn
import Derived.Lib.SmallJoins
import Derived.Test.YtbpppchkgjcahaaKFL3x1
import Derived.Test.YtbpppchkgjcahaaKFExPlanM
section
namespace Go.Proofs.Ytbpppchkgjcahaa
open Go.RowKit Go.Shelf Go.Proofs.YtbpppchkgjcahaaW.PrintWords Go.Proofs.YtbpppchkgjcahaaW.PrintMore
set_option linter.unusedVariables false
def FloorR (w : World) (fb h wd : Nat) (cl : Nat → Nat → Int) (boxes : List Box) : Prop := ∃ (g : Nat) (rb : Nat → Nat) (RA : Option Addr) (rc : Nat), fb < w.heap.size ∧ g < w.heap.size ∧
  w.cell? ⟨fb, 0, none⟩ = some (.slice (some ⟨g, 0, none⟩) h h) ∧ w.cell? ⟨fb, 1, none⟩ = some (.slice RA boxes.length rc) ∧
  (∀ r, r < h → rb r < w.heap.size ∧ w.cell? ⟨g, r, none⟩ = some (.slice (some ⟨rb r, 0, none⟩) wd wd) ∧ ∀ c, c < wd → w.cell? ⟨rb r, c, none⟩ = some (.int .i64 (cl r c))) ∧
  (boxes ≠ [] → ∃ rg, RA = some ⟨rg, 0, none⟩ ∧ rg < w.heap.size ∧ ∀ k (hk : k < boxes.length), w.cell? ⟨rg, k * 4, none⟩ = some (.int .i64 boxes[k].1) ∧ w.cell? ⟨rg, k * 4 + 1, none⟩ = some (.int .i64 boxes[k].2.1) ∧ w.cell? ⟨rg, k * 4 + 2, none⟩ = some (.int .i64 boxes[k].2.2.1) ∧ w.cell? ⟨rg, k * 4 + 3, none⟩ = some (.int .i64 boxes[k].2.2.2))
theorem FloorR.below {w w' : World} {fb h wd : Nat} {cl : Nat → Nat → Int} {boxes : List Box} (hf : FloorR w fb h wd cl boxes) (hb : Below w.heap.size w w') : FloorR w' fb h wd cl boxes := by
  obtain ⟨g, rb, RA, rc, h1, h2, h3, h4, h5, h6⟩ := hf
  have hs := hb.size
  refine ⟨g, rb, RA, rc, by omega, by omega, by rw [hb.cell h1]; exact h3, by rw [hb.cell h1]; exact h4, fun r hr => ?_, fun hne => ?_⟩
  · obtain ⟨a, b, c⟩ := h5 r hr
    exact ⟨by omega, by rw [hb.cell h2]; exact b, fun k hk => by rw [hb.cell a]; exact c k hk⟩
  · obtain ⟨rg, a, b, c⟩ := h6 hne
    refine ⟨rg, a, by omega, fun k hk => ?_⟩
    obtain ⟨c1, c2, c3, c4⟩ := c k hk
    exact ⟨by rw [hb.cell b]; exact c1, by rw [hb.cell b]; exact c2, by rw [hb.cell b]; exact c3, by rw [hb.cell b]; exact c4⟩
def sidesL (cl : Nat → Nat → Int) (level : Bool) (line at_ : Nat) : Int × Int := if level then (cl (line - 1) at_, cl line at_) else (cl at_ (line - 1), cl at_ line)
set_option maxRecDepth 100000 in
set_option maxHeartbeats 8000000 in
theorem sides_any (fb h wd : Nat) (cl : Nat → Nat → Int) (boxes : List Box) (w : World) (hf : FloorR w fb h wd cl boxes) (hh : h ≤ 1000) (hwd : wd ≤ 1000) (level : Bool) (line at_ : Nat) (hl : 1 ≤ line) (hin : if level then line < h ∧ at_ < wd else line < wd ∧ at_ < h) :
    Calls Try.prog 136 #[.pointer (some ⟨fb, 0, none⟩), .bool level, .int .i64 line, .int .i64 at_] w fun e w' => e = .returned (.tuple #[.int .i64 (sidesL cl level line at_).1, .int .i64 (sidesL cl level line at_).2]) ∧ Below w.heap.size w w' := by
  obtain ⟨g, rb, RA, rc, h1, h2, h3, h4, h5, h6⟩ := hf
  cases level with
  | true =>
    simp only [if_true] at hin
    obtain ⟨a1, a2, a3⟩ := h5 (line - 1) (by omega)
    obtain ⟨b1, b2, b3⟩ := h5 line hin.1
    have a4 := a3 at_ hin.2
    have b4 := b3 at_ hin.2
    have e1 : ((line : Int) - 1) = ((line - 1 : Nat) : Int) := by omega
    go_enter Try.func136, Try.ntmps136
    go_wp2
    go_quiet (fail)
    go_wp2
    go_ret2
    exact ⟨rfl, by repeat (first | exact Below.refl _ _ | apply pw_below_drewN | apply below_alloc)⟩
  | false =>
    simp only [Bool.false_eq_true, if_false] at hin
    obtain ⟨a1, a2, a3⟩ := h5 at_ hin.2
    have a4 := a3 (line - 1) (by omega)
    have b4 := a3 line hin.1
    have e1 : ((line : Int) - 1) = ((line - 1 : Nat) : Int) := by omega
    go_enter Try.func136, Try.ntmps136
    go_wp2
    go_quiet (fail)
    go_wp2
    go_ret2
    exact ⟨rfl, by repeat (first | exact Below.refl _ _ | apply pw_below_drewN | apply below_alloc)⟩
set_option maxRecDepth 100000 in
set_option maxHeartbeats 8000000 in
theorem differ_any (fb h wd : Nat) (cl : Nat → Nat → Int) (boxes : List Box) (w : World) (hf : FloorR w fb h wd cl boxes) (hh : h ≤ 1000) (hwd : wd ≤ 1000) (level : Bool) (line at_ : Nat) (hl : 1 ≤ line) (hin : if level then line < h ∧ at_ < wd else line < wd ∧ at_ < h) :
    Calls Try.prog 150 #[.pointer (some ⟨fb, 0, none⟩), .bool level, .int .i64 line, .int .i64 at_] w fun e w' => e = .returned (.bool ((sidesL cl level line at_).1 != (sidesL cl level line at_).2)) ∧ Below w.heap.size w w' := by
  go_enter Try.func150, Try.ntmps150
  go_wp2_with (
    go_at_call 136
    refine (sides_any fb h wd cl boxes w hf hh hwd level line at_ hl hin).mono ?_
    rintro _ w1 ⟨rfl, hb⟩)
  go_ret
  exact ⟨rfl, hb⟩
def natB (r c h w : Nat) : Box := ((r : Int), (c : Int), (h : Int), (w : Int))
end Go.Proofs.Ytbpppchkgjcahaa
end
section
namespace Go.Proofs.Ytbpppchkgjcahaa
open Go.RowKit Go.Shelf Go.Proofs.YtbpppchkgjcahaaW.PrintWords Go.Proofs.YtbpppchkgjcahaaW.PrintMore
set_option linter.unusedVariables false
theorem own_cap {W : World} {base n c : Nat} {e : TypeId} {size : Nat} {A : Option Addr} {xs : List Value} (h : W.ownsRow base e size (.slice A n c) n xs) : n ≤ c := by
  rcases h.2 with ⟨e1, e2⟩ | ⟨g', cap, cur, e, hg, hh, hc, _⟩
  · omega
  · injection e with _ _ e3
    omega
end Go.Proofs.Ytbpppchkgjcahaa
end
section
namespace Go.Proofs.Ytbpppchkgjcahaa
open Go.RowKit Go.Shelf Go.Proofs.YtbpppchkgjcahaaW.PrintWords Go.Proofs.YtbpppchkgjcahaaW.PrintMore
set_option linter.unusedVariables false
end Go.Proofs.Ytbpppchkgjcahaa
end
section
namespace Go.Proofs.Ytbpppchkgjcahaa
open Go.RowKit Go.Shelf Go.Proofs.YtbpppchkgjcahaaW.PrintWords Go.Proofs.YtbpppchkgjcahaaW.PrintMore
set_option linter.unusedVariables false
end Go.Proofs.Ytbpppchkgjcahaa
end
section
namespace Go.Proofs.Ytbpppchkgjcahaa
open Go.RowKit Go.Shelf Go.Proofs.YtbpppchkgjcahaaW.PrintWords Go.Proofs.YtbpppchkgjcahaaW.PrintMore
attribute [local go_sem] Oper.semAt_some
set_option linter.unusedVariables false
end Go.Proofs.Ytbpppchkgjcahaa
end
section
namespace Go.Proofs.Ytbpppchkgjcahaa
open Go.RowKit Go.Shelf Go.Proofs.YtbpppchkgjcahaaW.PrintWords Go.Proofs.YtbpppchkgjcahaaW.PrintMore
set_option linter.unusedVariables false
abbrev Rc := Nat × Nat × Nat × Nat
structure Within (r c ph pw : Nat) (R : Rc) : Prop where
  row : r ≤ R.1 ∧ R.1 + R.2.2.1 ≤ r + ph
  col : c ≤ R.2.1 ∧ R.2.1 + R.2.2.2 ≤ c + pw
  some : 1 ≤ ph → 1 ≤ pw → 1 ≤ R.2.2.1 ∧ 1 ≤ R.2.2.2
  less : R.2.2.1 + R.2.2.2 < ph + pw
end Go.Proofs.Ytbpppchkgjcahaa
end
section
namespace Go.Proofs.Ytbpppchkgjcahaa
open Go.RowKit Go.Shelf Go.Proofs.YtbpppchkgjcahaaW.PrintWords Go.Proofs.YtbpppchkgjcahaaW.PrintMore L3
set_option linter.unusedVariables false
def Ev {α : Type} (g : Nat → Option α) (r : α) : Prop := ∃ k0, ∀ k, k0 ≤ k → g k = some r
theorem Ev.now {α : Type} {g : Nat → Option α} {r : α} (h : ∀ k, g (k + 1) = some r) : Ev g r := ⟨1, fun k hk => by obtain ⟨j, rfl⟩ : ∃ j, k = j + 1 := ⟨k - 1, by omega⟩; exact h j⟩
theorem Ev.step {α : Type} {g g' : Nat → Option α} {r : α} (h : Ev g r) (hs : ∀ k, g' (k + 1) = g k) : Ev g' r := by
  obtain ⟨k0, h⟩ := h
  exact ⟨k0 + 1, fun k hk => by obtain ⟨j, rfl⟩ : ∃ j, k = j + 1 := ⟨k - 1, by omega⟩; rw [hs]; exact h j (by omega)⟩
theorem Ev.same {α : Type} {g g' : Nat → Option α} {r : α} (h : Ev g r) (hs : ∀ k, g' k = g k) : Ev g' r := by
  obtain ⟨k0, h⟩ := h
  exact ⟨k0, fun k hk => by rw [hs]; exact h k hk⟩
theorem Ev.bind {α β : Type} {g : Nat → Option α} {F : Nat → α → Option β} {a : α} {r : β} (h : Ev g a) (h2 : Ev (fun k => F k a) r) : Ev (fun k => (g k).bind (F k)) r := by
  obtain ⟨k0, h⟩ := h
  obtain ⟨k1, h2⟩ := h2
  exact ⟨k0 + k1, fun k hk => by show (g k).bind (F k) = _; rw [h k (by omega), Option.bind_some]; exact h2 k (by omega)⟩
theorem Ev.stepBind {α β : Type} {g : Nat → Option α} {g' : Nat → Option β} {F : Nat → α → Option β} {a : α} {r : β} (h : Ev g a) (hs : ∀ k, g' (k + 1) = (g k).bind (F k)) (h2 : Ev (fun k => F k a) r) : Ev g' r := (h.bind h2).step hs
theorem Ev.const {α : Type} (r : α) : Ev (fun _ => some r) r := ⟨0, fun _ _ => rfl⟩
theorem Ev.ex {α : Type} {g : Nat → Option α} {r : α} (h : Ev g r) : ∃ k, g k = some r := by
  obtain ⟨k0, h⟩ := h
  exact ⟨k0, h k0 (Nat.le_refl _)⟩
structure TG (p : List ByteArray) (h w : Nat) (G : Nat → Nat → Int) : Prop where
  len : p.length = h
  size : ∀ i, i < h → (rdOf ByteArray.empty p (i : Int)).size = w
  cell : ∀ i j, i < h → j < w → bt (rdOf ByteArray.empty p (i : Int)) (j : Int) = G i j
  let_ : ∀ i j, i < h → j < w → 97 ≤ G i j ∧ G i j ≤ 122
  high : 1 ≤ h ∧ h ≤ 6
  wide : 1 ≤ w ∧ w ≤ 6
theorem wsucc {j : Nat} (h : j ≤ 9000000) : wrap64 ((j : Int) + 1) = ((j + 1 : Nat) : Int) := wrap_succ h
end Go.Proofs.Ytbpppchkgjcahaa
end
section
namespace Go.Proofs.Ytbpppchkgjcahaa
open Go.RowKit Go.Shelf Go.Proofs.YtbpppchkgjcahaaW.PrintWords Go.Proofs.YtbpppchkgjcahaaW.PrintMore L3
set_option linter.unusedVariables false
theorem rdOf_map {n : Nat} (F : Nat → ByteArray) {i : Nat} (hi : i < n) : rdOf ByteArray.empty ((List.range n).map F) (i : Int) = F i := by
  unfold rdOf
  rw [Int.toNat_natCast, List.getD_eq_getElem?_getD, List.getElem?_map, List.getElem?_range hi]; rfl
theorem TG.made {h w : Nat} {G : Nat → Nat → Int} (F : Nat → ByteArray) (hh : 1 ≤ h ∧ h ≤ 6) (hw : 1 ≤ w ∧ w ≤ 6) (hs : ∀ i, i < h → (F i).size = w) (hc : ∀ i j, i < h → j < w → bt (F i) (j : Int) = G i j) (hl : ∀ i j, i < h → j < w → 97 ≤ G i j ∧ G i j ≤ 122) : TG ((List.range h).map F) h w G where
  len := by simp
  size := fun i hi => by rw [rdOf_map F hi]; exact hs i hi
  cell := fun i j hi hj => by rw [rdOf_map F hi]; exact hc i j hi hj
  let_ := hl
  high := hh
  wide := hw
theorem bt_lt {s : ByteArray} {j : Nat} (h : j < s.size) : bt s (j : Int) = ((s[j]).toNat : Int) := by
  unfold bt
  rw [dif_pos (by simpa using h)]
  simp only [Int.toNat_natCast]
theorem str_size (xs : List Int) : (strOfNums xs).size = xs.length := by
  unfold strOfNums ByteArray.size
  simp
theorem str_bt (xs : List Int) (hx : ∀ x ∈ xs, 0 ≤ x ∧ x ≤ 255) {j : Nat} (hj : j < xs.length) : bt (strOfNums xs) (j : Int) = xs[j] := by
  rw [bt_lt (by rw [str_size]; exact hj)]
  have h1 := hx _ (List.getElem_mem hj)
  have : (strOfNums xs)[j]'(by rw [str_size]; exact hj) = UInt8.ofNat (xs[j]).toNat := by
    show ((strOfNums xs).data)[j]'_ = _
    unfold strOfNums
    simp
  rw [this, UInt8.toNat_ofNat', Nat.mod_eq_of_lt (by omega)]
  omega
def transT (h w : Nat) (G : Nat → Nat → Int) : List ByteArray := (List.range w).map fun j => strOfNums ((List.range h).map fun i => G i j)
theorem trans_row {p : List ByteArray} {h w : Nat} {G : Nat → Nat → Int} (t : TG p h w G) (j : Nat) (hj : j < w) (out : List ByteArray) (ho : out.length ≤ 100) (R : List ByteArray)
    (hR : Ev (fun k => spec_l1Trans.l0 k p (out ++ [strOfNums ((List.range h).map fun i => G i j)]) ((j + 1 : Nat) : Int)) R) :
    ∀ d i, i + d = h → Ev (fun k => spec_l1Trans.l1 k p out (j : Int) ((List.range i).map fun r => G r j) (i : Int)) R := by
  have hl := t.len
  have hh := t.high
  have hw := t.wide
  intro d
  induction d with
  | zero =>
    intro i hi
    obtain rfl : i = h := by omega
    refine hR.step fun k => ?_
    show spec_l1Trans.l1 (k + 1) p _ _ _ _ = _
    conv => lhs; unfold spec_l1Trans.l1
    rw [if_neg (by omega), if_pos (by omega), wsucc (by omega)]
  | succ d ih =>
    intro i hi
    have hs := t.size i (by omega)
    have hc := t.cell i j (by omega) hj
    refine (ih (i + 1) (by omega)).step fun k => ?_
    show spec_l1Trans.l1 (k + 1) p _ _ _ _ = _
    conv => lhs; unfold spec_l1Trans.l1
    rw [if_pos (by omega), if_pos (by omega), if_pos (by omega), if_pos (by omega), if_pos (by simp; omega), hc, wsucc (by omega), List.range_succ, List.map_append]
    rfl
theorem trans_from {p : List ByteArray} {h w : Nat} {G : Nat → Nat → Int} (t : TG p h w G) : ∀ d j, j + d = w → Ev (fun k => spec_l1Trans.l0 k p ((List.range j).map fun j => strOfNums ((List.range h).map fun i => G i j)) (j : Int)) (transT h w G) := by
  have hl := t.len
  have hh := t.high
  have hw := t.wide
  have hs0 := t.size 0 (by omega)
  rw [show ((0 : Nat) : Int) = 0 from rfl] at hs0
  intro d
  induction d with
  | zero =>
    intro j hj
    obtain rfl : j = w := by omega
    refine Ev.now fun k => ?_
    unfold spec_l1Trans.l0
    rw [if_pos (by omega), if_neg (by omega)]; rfl
  | succ d ih =>
    intro j hj
    have hE := ih (j + 1) (by omega)
    rw [List.range_succ, List.map_append] at hE
    refine (trans_row t j (by omega) _ (by simp; omega) _ hE h 0 (by omega)).step fun k => ?_
    show spec_l1Trans.l0 (k + 1) p _ _ = _
    conv => lhs; unfold spec_l1Trans.l0
    rw [if_pos (by omega), if_pos (by omega)]; rfl
theorem trans_f {p : List ByteArray} {h w : Nat} {G : Nat → Nat → Int} (t : TG p h w G) : Ev (fun k => spec_l1Trans.f k p) (transT h w G) := trans_from t w 0 (by omega)
theorem trans_TG {p : List ByteArray} {h w : Nat} {G : Nat → Nat → Int} (t : TG p h w G) : TG (transT h w G) w h (fun i j => G j i) := by
  refine TG.made _ t.wide t.high (fun i hi => by rw [str_size]; simp) (fun i j hi hj => ?_) (fun i j hi hj => t.let_ j i hj hi)
  rw [str_bt _ ?_ (by simpa using hj)]
  · simp
  · intro x hx
    obtain ⟨r, hr, rfl⟩ := List.mem_map.1 hx
    have := t.let_ r i (List.mem_range.1 hr) hi
    omega
end Go.Proofs.Ytbpppchkgjcahaa
end
section
namespace Go.Proofs.Ytbpppchkgjcahaa
open Go.RowKit Go.Shelf Go.Proofs.YtbpppchkgjcahaaW.PrintWords Go.Proofs.YtbpppchkgjcahaaW.PrintMore
set_option linter.unusedVariables false
set_option linter.unusedSimpArgs false
def rowPut (s : ByteArray) (left d : Nat) (c : Int) : List Int := (List.range s.size).map fun j => if left ≤ j ∧ j < left + d then c else bt s (j : Int)
theorem rowPut_len (s : ByteArray) (left d : Nat) (c : Int) : (rowPut s left d c).length = s.size := by unfold rowPut; simp
theorem rowPut_get (s : ByteArray) (left d : Nat) (c : Int) (j : Nat) (hj : j < s.size) : (rowPut s left d c).getD j 0 = if left ≤ j ∧ j < left + d then c else bt s (j : Int) := by
  unfold rowPut
  rw [List.getD_eq_getElem?_getD, List.getElem?_map, List.getElem?_range hj]
  rfl
theorem rowPut_zero (s : ByteArray) (left : Nat) (c : Int) : rowPut s left 0 c = bytesOf s := by
  apply List.ext_getElem
  · rw [rowPut_len, bytesOf_length]
  · intro i h1 h2
    rw [rowPut_len] at h1
    have e1 := rowPut_get s left 0 c i h1
    rw [if_neg (by omega)] at e1
    rw [List.getD_eq_getElem?_getD, List.getElem?_eq_getElem (by rw [rowPut_len]; exact h1)] at e1
    have e2 := rd_bytesOf s (i : Int)
    unfold rd at e2
    rw [Int.toNat_natCast, List.getD_eq_getElem?_getD, List.getElem?_eq_getElem h2] at e2
    exact e1.trans e2.symm
theorem rowPut_more (s : ByteArray) (left d : Nat) (c : Int) : (rowPut s left d c).set (left + d) c = rowPut s left (d + 1) c := by
  apply List.ext_getElem
  · rw [List.length_set, rowPut_len, rowPut_len]
  · intro i h1 h2
    rw [rowPut_len] at h2
    have g1 := rowPut_get s left d c i h2
    have g2 := rowPut_get s left (d + 1) c i h2
    rw [List.getD_eq_getElem?_getD, List.getElem?_eq_getElem (by rw [rowPut_len]; exact h2)] at g1 g2
    rw [List.getElem_set]
    change (rowPut s left d c)[i]'_ = _ at g1
    change (rowPut s left (d + 1) c)[i]'_ = _ at g2
    rw [g2]
    by_cases e : left + d = i
    · rw [if_pos e, if_pos (by omega)]
    · rw [if_neg e, g1]
      by_cases e2 : left ≤ i ∧ i < left + d
      · rw [if_pos e2, if_pos (by omega)]
      · rw [if_neg e2, if_neg (by omega)]
def putT (p : List ByteArray) (top d left w : Nat) (c : Int) : List ByteArray := (List.range p.length).map fun i => if top ≤ i ∧ i < top + d then strOfNums (rowPut (rdOf ByteArray.empty p (i : Int)) left w c) else rdOf ByteArray.empty p (i : Int)
theorem putT_len (p : List ByteArray) (top d left w : Nat) (c : Int) : (putT p top d left w c).length = p.length := by unfold putT; simp
theorem putT_get (p : List ByteArray) (top d left w : Nat) (c : Int) (i : Nat) (hi : i < p.length) : rdOf ByteArray.empty (putT p top d left w c) (i : Int) = if top ≤ i ∧ i < top + d then strOfNums (rowPut (rdOf ByteArray.empty p (i : Int)) left w c) else rdOf ByteArray.empty p (i : Int) := rdOf_map _ hi
theorem rdOf_get {p : List ByteArray} {i : Nat} (hi : i < p.length) : rdOf ByteArray.empty p (i : Int) = p[i] := by
  unfold rdOf
  rw [Int.toNat_natCast, List.getD_eq_getElem?_getD, List.getElem?_eq_getElem hi]
  rfl
theorem putT_zero (p : List ByteArray) (top left w : Nat) (c : Int) : putT p top 0 left w c = p := by
  apply List.ext_getElem
  · exact putT_len ..
  · intro i h1 h2
    have := putT_get p top 0 left w c i h2
    rw [if_neg (by omega), rdOf_get h1, rdOf_get h2] at this
    exact this
theorem putT_more (p : List ByteArray) (top d left w : Nat) (c : Int) : (putT p top d left w c).set (top + d) (strOfNums (rowPut (rdOf ByteArray.empty p ((top + d : Nat) : Int)) left w c)) = putT p top (d + 1) left w c := by
  apply List.ext_getElem
  · rw [List.length_set, putT_len, putT_len]
  · intro i h1 h2
    have hi : i < p.length := by rw [putT_len] at h2; exact h2
    have g1 := putT_get p top d left w c i hi
    have g2 := putT_get p top (d + 1) left w c i hi
    rw [rdOf_get (by rw [putT_len]; exact hi)] at g1 g2
    rw [List.getElem_set, g2]
    by_cases e : top + d = i
    · subst e
      rw [if_pos rfl, if_pos (by omega)]
    · rw [if_neg e, g1]
      by_cases e2 : top ≤ i ∧ i < top + d
      · rw [if_pos e2, if_pos (by omega)]
      · rw [if_neg e2, if_neg (by omega)]
def BytesAt (W : World) (g : Nat) (xs : List Int) : Prop := ∃ cs : Array Value, W.heap[g]? = some (.cells cs 5 (cs.size, cs.size + 1)) ∧ xs.length ≤ cs.size ∧ ∀ j, j < xs.length → cs[j]? = some (.int .u8 (xs.getD j 0))
theorem BytesAt.cell {W : World} {g : Nat} {xs : List Int} (h : BytesAt W g xs) {j : Nat} (hj : j < xs.length) : W.cell? ⟨g, j, none⟩ = some (.int .u8 (xs.getD j 0)) ∧ W.frozen? ⟨g, j, none⟩ = false := by
  obtain ⟨cs, h1, h2, h3⟩ := h
  refine ⟨?_, ?_⟩
  · unfold World.cell?
    rw [h1]
    exact h3 j hj
  · unfold World.frozen?
    rw [h1]
    simp
    omega
theorem BytesAt.put {W : World} {g : Nat} {xs : List Int} (h : BytesAt W g xs) (j : Nat) (x : Int) (hj : j < xs.length) : BytesAt (W.setCell ⟨g, j, none⟩ (.int .u8 x)) g (xs.set j x) := by
  obtain ⟨cs, h1, h2, h3⟩ := h
  refine ⟨cs.setIfInBounds j (.int .u8 x), ?_, by rw [List.length_set, Array.size_setIfInBounds]; exact h2, fun i hi => ?_⟩
  · rw [Array.size_setIfInBounds]
    simp [World.setCell, Array.getElem?_modify, h1]
  · rw [List.length_set] at hi
    rw [Array.getElem?_setIfInBounds]
    by_cases e : j = i
    · subst e
      rw [if_pos rfl, if_pos (by omega), List.getD_eq_getElem?_getD, List.getElem?_set_self hj]; rfl
    · rw [if_neg e, h3 i hi, List.getD_eq_getElem?_getD, List.getD_eq_getElem?_getD, List.getElem?_set_ne e]
theorem bytesAt_new (W : World) (s : ByteArray) : BytesAt (Lib.bytesWorld W 5 s) W.heap.size (bytesOf s) := by
  refine ⟨_, Lib.bytesWorld_at_new W 5 s, ?_, fun j hj => ?_⟩
  · rw [bytesOf_length]
    unfold Lib.bytesCells
    rw [Array.size_append, Array.size_map]
    exact Nat.le_add_right _ _
  · rw [bytesOf_length] at hj
    have h := Lib.bytesWorld_cell W 5 s j hj
    unfold World.cell? at h
    rw [Lib.bytesWorld_at_new] at h
    rw [show (bytesOf s).getD j 0 = ((s.data.toList.getD j 0).toNat : Int) by
      have h' : j < s.data.toList.length := by rw [data_length]; exact hj
      simp [bytesOf, List.getD_eq_getElem?_getD, List.getElem?_eq_getElem h']]
    exact h
set_option maxRecDepth 100000 in
set_option maxHeartbeats 8000000 in
theorem l1Put_any (A : Option Addr) (cap : Nat) (p : List ByteArray) (top left h wd : Nat) (c : Int) (hp : p.length ≤ 100) (h1 : top + h ≤ p.length) (hpos : 1 ≤ p.length) (h2 : ∀ i, i < p.length → left + wd ≤ (rdOf ByteArray.empty p (i : Int)).size ∧ (rdOf ByteArray.empty p (i : Int)).size ≤ 100) (hcc : 0 ≤ c ∧ c ≤ 255) (w : World) (hr0 : Kd.C Kd.string w A p.length p) (hc0 : p.length ≤ cap) :
    Calls Try.prog 224 #[.slice A p.length cap, .int .i64 top, .int .i64 left, .int .i64 h, .int .i64 wd, .int .u8 c] w fun e w' => (∃ g c', e = .returned (.slice (some ⟨g, 0, none⟩) p.length c') ∧ w'.ownsRow w.heap.size 9 1 (.slice (some ⟨g, 0, none⟩) p.length c') p.length (encs Value.string (putT p top h left wd c))) ∧ Below w.heap.size w w' := by
  have HR := Aside0.mk (Kd.reads_of_C (enc := Value.string) (d := ByteArray.empty) (h1 := fun _ => rfl) hr0)
  have H2 := Aside0.mk h2
  have hc1 := hcc.1
  have hc2 := hcc.2
  have HO0 : Aside0 ((w.alloc (.cells #[] 9)).ownsRow w.heap.size 9 1 (.slice (some ⟨w.heap.size, 0, none⟩) 0 0) 0 (encs Value.string [])) := ⟨own_lit_of (enc := Value.string) w w.heap.size 9 [] (Nat.le_refl _) (by simp)⟩
  have HB0 : Aside0 (Below w.heap.size w (w.alloc (.cells #[] 9))) := ⟨(Below.refl _ _).alloc (Nat.le_refl _) _⟩
  clear hr0 h2 hcc
  go_enter Try.func224, Try.ntmps224
  go_wp2_with (at_builtin; refine print_append_row_of (w0 := w) (enc := Value.string) (d := ByteArray.empty) w.heap.size rfl (.tmp 17) (.tmp 18) 22 9 (.string ⟨#[]⟩) 16 rfl Try.underlying22 (by kernel_rfl) rfl (by omega) (fun _ => rfl) _ [] p A p.length cap rfl rfl ?k1 ?k4 ?k3 ?k2 ?k5 ?_; (case k1 => exact HO0.out); (case k4 => exact HR.out.below HB0.out); (case k3 => exact HB0.out); (case k2 => exact HB0.out.size); (case k5 => simp; omega); intro v1 w1 ho hB hg hat; have HO1 := Aside0.mk ho; have HB1 := Aside0.mk hB; clear ho hB hg hat)
  obtain ⟨g, c1, hv1, _, _⟩ := HO1.out.form (by simp; omega)
  subst hv1
  have HO2 : Aside0 (w1.ownsRow w.heap.size 9 1 (.slice (some ⟨g, 0, none⟩) p.length c1) p.length (encs Value.string p)) := ⟨by have := HO1.out; simpa using this⟩
  have hpl : ([] ++ p : List ByteArray).length = p.length := by simp
  rw [hpl]
  clear HO1 hpl
  go_loopw [14] (fun i wr => ∃ m : Nat, i = .int .i64 ((top + m : Nat) : Int) ∧ m ≤ h ∧ Aside0 (wr.ownsRow w.heap.size 9 1 (.slice (some ⟨g, 0, none⟩) p.length c1) p.length (encs Value.string (putT p top m left wd c)) ∧ Below w.heap.size w wr)) (fun i _ => top + h - (intOf i).toNat)
  case atStart => exact ⟨0, rfl, Nat.zero_le _, ⟨by rw [putT_zero]; exact HO2.out, HB1.out⟩⟩
  case round =>
    obtain ⟨m, rfl, hm, HD⟩ := hrel
    obtain ⟨wo, rfl⟩ : ∃ wo : World, wo = wr := ⟨_, rfl⟩
    by_cases hlt : m < h
    · obtain ⟨crow, frow⟩ := own_at_of (d := ByteArray.empty) HD.out.1 ((top + m : Nat) : Int) (by omega) (by omega)
      rw [putT_get p top m left wd c (top + m) (by omega), if_neg (by omega), Int.toNat_natCast] at crow
      rw [Int.toNat_natCast] at frow
      have hs2 := H2.out (top + m) (by omega)
      obtain ⟨s, hs⟩ : ∃ s, rdOf ByteArray.empty p ((top + m : Nat) : Int) = s := ⟨_, rfl⟩
      rw [hs] at crow hs2
      have HS := Aside0.mk hs
      have hs3 := hs2.1
      have hs4 := hs2.2
      have kb := fun W => print_bytes (P := Try.prog) 9 29 5 Try.underlying9 Try.underlying29 Try.underlying5 s W
      have HBY : Aside0 (BytesAt (Lib.bytesWorld wo 5 s) wo.heap.size (rowPut s left 0 c)) := ⟨by rw [rowPut_zero]; exact bytesAt_new wo s⟩
      have HBW : Aside0 (Below wo.heap.size wo (Lib.bytesWorld wo 5 s)) := ⟨bytes_below (Below.refl _ _) (Nat.le_refl _) 5 s⟩
      obtain ⟨cx, hcx⟩ : ∃ cx, grownCap wo s.size 0 5 = cx := ⟨_, rfl⟩
      clear hs hs2
      go_wp2_with fail
      try rw [hcx]
      clear kb hcx crow frow
      go_loopw [16] (fun i w2 => ∃ j : Nat, i = .int .i64 ((left + j : Nat) : Int) ∧ j ≤ wd ∧ Aside0 (BytesAt w2 wo.heap.size (rowPut s left j c) ∧ Below wo.heap.size wo w2)) (fun i _ => left + wd - (intOf i).toNat)
      case atStart => exact ⟨0, rfl, Nat.zero_le _, ⟨HBY.out, HBW.out⟩⟩
      case round =>
        obtain ⟨j, rfl, hj, HE⟩ := hrel
        by_cases hjl : j < wd
        · obtain ⟨cx1, fx1⟩ := HE.out.1.cell (j := left + j) (by rw [rowPut_len]; omega)
          go_wp2_with fail
          refine ⟨⟨j + 1, by push_cast; rfl, by omega, ⟨?_, HE.out.2.setCell (p := ⟨wo.heap.size, left + j, none⟩) (Nat.le_refl _) _⟩⟩, by simp [intOf]; omega⟩
          rw [← rowPut_more]
          exact HE.out.1.put (left + j) c (by rw [rowPut_len]; omega)
        · have hje : j = wd := by omega
          subst hje
          have hcv : (convert 29 9 (.slice (some ⟨wo.heap.size, 0, none⟩) s.size cx)).run Try.prog wr = .ok (.string (strOfNums (rowPut s left j c))) wr := by
            refine run_convert_bytes_arg wr 29 5 Try.underlying29 Try.underlying5 wo.heap.size 0 s.size cx (rowPut s left j c) (rowPut_len _ _ _ _) (fun i hi => ?_) 9 Try.underlying9
            rw [Nat.zero_add]
            exact (HE.out.1.cell (j := i) (by rw [rowPut_len]; exact hi)).1
          have HOW := Aside0.mk (pw_own_below HD.out.1 HE.out.2)
          obtain ⟨crow, frow⟩ := own_at_of (d := ByteArray.empty) HOW.out ((top + m : Nat) : Int) (by omega) (by omega)
          rw [Int.toNat_natCast] at crow frow
          go_wp2_with fail
          go_roundw
          case rel =>
            refine ⟨m + 1, by go_num, by omega, ⟨?_, ?_⟩⟩
            · have := (own_store_of (enc := Value.string) HOW.out ((top + m : Nat) : Int) (strOfNums (rowPut s left j c))).1
              rw [Int.toNat_natCast, ← HS.out, putT_more, HS.out] at this
              exact this
            · exact (HD.out.2.trans (HE.out.2.mono HD.out.2.size)).setCell (p := ⟨g, top + m, none⟩) (own_base HOW.out g rfl) _
          case measure => simp [intOf]; omega
    · have hme : m = h := by omega
      subst hme
      go_wp2_with fail
      go_ret
      exact ⟨⟨g, c1, rfl, HD.out.1⟩, HD.out.2⟩
end Go.Proofs.Ytbpppchkgjcahaa
end
section
namespace Go.Proofs.Ytbpppchkgjcahaa
open Go.RowKit Go.Shelf Go.Proofs.YtbpppchkgjcahaaW.PrintWords Go.Proofs.YtbpppchkgjcahaaW.PrintMore
set_option linter.unusedVariables false
structure Flat (cl : Nat → Nat → Int) (boxes : List Box) (h wd : Nat) : Prop where
  high : 1 ≤ h ∧ h ≤ 6
  wide : 1 ≤ wd ∧ wd ≤ 6
  few : boxes.length ≤ 9
  num : ∀ i j, i < h → j < wd → ∃ k, k < boxes.length ∧ cl i j = (k : Int)
  box : ∀ k (hk : k < boxes.length), ∃ a b c d : Nat, boxes[k] = natB a b c d ∧ 1 ≤ c ∧ 1 ≤ d ∧ a + c ≤ h ∧ b + d ≤ wd ∧ ∀ i j, i < h → j < wd → (cl i j = (k : Int) ↔ (a ≤ i ∧ i < a + c) ∧ (b ≤ j ∧ j < b + d))
def InR (r c ph pw i j : Nat) : Prop := (r ≤ i ∧ i < r + ph) ∧ (c ≤ j ∧ j < c + pw)
structure Whole (cl : Nat → Nat → Int) (h wd r c ph pw : Nat) : Prop where
  some : 1 ≤ ph ∧ 1 ≤ pw
  row : r + ph ≤ h
  col : c + pw ≤ wd
  all : ∀ i j i' j', InR r c ph pw i j → i' < h → j' < wd → cl i j = cl i' j' → InR r c ph pw i' j'
def gridOf (cl : Nat → Nat → Int) (r c : Nat) : Nat → Nat → Int := fun i j => 97 + cl (r + i) (c + j)
end Go.Proofs.Ytbpppchkgjcahaa
end
section
namespace Go.Proofs.Ytbpppchkgjcahaa
open Go.RowKit Go.Shelf Go.Proofs.YtbpppchkgjcahaaW.PrintWords Go.Proofs.YtbpppchkgjcahaaW.PrintMore L3
set_option linter.unusedVariables false
end Go.Proofs.Ytbpppchkgjcahaa
end
section
namespace Go.Proofs.Ytbpppchkgjcahaa
open Go.RowKit Go.Shelf Go.Proofs.YtbpppchkgjcahaaW.PrintWords Go.Proofs.YtbpppchkgjcahaaW.PrintMore
set_option linter.unusedVariables false
def wdP (p : List ByteArray) : Nat := ((rowsOf p).getD 0 []).length
def fP (p : List ByteArray) : Nat → Int := cellOf (rowsOf p) (wdP p)
def clP (p : List ByteArray) (i j : Nat) : Int := ((numAt (wdP p) (fP p) (i * wdP p + j) : Nat) : Int)
def boxesP (p : List ByteArray) : List Box := (scanOf (rowsOf p)).2
theorem boxesP_scan (p : List ByteArray) : boxesP p = (scan (wdP p) (fP p) (p.length * wdP p)).2 := by
  unfold boxesP scanOf wdP fP
  have hlen : (rowsOf p).length = p.length := by unfold rowsOf; rw [List.length_map]
  rw [hlen]; rfl
theorem cnt_put (f : Nat → Int) (x : Int) (m : Nat) (hm : f m ≠ x) : ∀ n, cntX (fun i => if i = m then x else f i) x n = cntX f x n + if m < n then 1 else 0 := by
  intro n
  induction n with
  | zero => simp [cntX, sumTo]
  | succ n ih =>
    unfold cntX at ih ⊢
    unfold sumTo
    rw [ih]
    by_cases e : n = m
    · subst e
      simp only [if_true, if_neg hm, if_neg (Nat.lt_irrefl n), if_pos (Nat.lt_succ_self n)]
    · simp only [if_neg e]
      have e1 : (if m < n + 1 then 1 else 0) = (if m < n then 1 else (0 : Nat)) := by
        by_cases h2 : m < n
        · rw [if_pos h2, if_pos (by omega)]
        · rw [if_neg h2, if_neg (by omega)]
      rw [e1]; omega
theorem box_full {w h : Nat} {f : Nat → Int} {x : Int} {b : Box} (hb : IsBox w f (h * w) x b) (ha : (cntX f x (h * w) : Int) = areaB b) {i j : Nat} (hi : i < h) (hj : j < w) (h1 : b.1 ≤ (i : Int)) (h2 : (i : Int) < b.1 + b.2.2.1) (h3 : b.2.1 ≤ (j : Int)) (h4 : (j : Int) < b.2.1 + b.2.2.2) : f (i * w + j) = x := by
  apply Classical.byContradiction
  intro hne
  have hlt : i * w + j < h * w := by
    have : (i + 1) * w ≤ h * w := Nat.mul_le_mul_right _ hi
    rw [Nat.succ_mul] at this; omega
  have hw : ∀ m, f m = x → (fun q => if q = i * w + j then x else f q) m = x := fun m hm => by
    show (if m = i * w + j then x else f m) = x
    split
    · rfl
    · exact hm
  have hb2 : IsBox w (fun q => if q = i * w + j then x else f q) (h * w) x b := by
    refine ⟨fun m hm he => ?_, ?_, ?_, ?_, ?_⟩
    · by_cases e : m = i * w + j
      · subst e
        rw [(div_row hj).1, (div_row hj).2]
        exact ⟨h1, h2, h3, h4⟩
      · have he' : (if m = i * w + j then x else f m) = x := he
        rw [if_neg e] at he'
        exact hb.all m hm he'
    · obtain ⟨m, a, b', c⟩ := hb.top; exact ⟨m, a, hw m b', c⟩
    · obtain ⟨m, a, b', c⟩ := hb.low; exact ⟨m, a, hw m b', c⟩
    · obtain ⟨m, a, b', c⟩ := hb.left; exact ⟨m, a, hw m b', c⟩
    · obtain ⟨m, a, b', c⟩ := hb.right; exact ⟨m, a, hw m b', c⟩
  have hle := cnt_le_area hb2
  rw [cnt_put f x _ hne, if_pos hlt] at hle
  omega
structure PlanFacts (p : List ByteArray) : Prop where
  let_ : lettersB p = true
  shape : shapeB (rowsOf p) = true
  few : (boxesP p).length ≤ 9
  full : fullB (rowsOf p) = true
  named : (numsOf (rowsOf p)).map rowText = p
theorem planFacts {p : List ByteArray} (h : planG p = true) : PlanFacts p := by
  unfold planG at h
  simp only [Bool.and_eq_true, decide_eq_true_eq] at h
  exact ⟨h.1, h.2.1.1, h.2.1.2, h.2.2.1, h.2.2.2⟩
theorem planFlat {p : List ByteArray} (h : planG p = true) : Flat (clP p) (boxesP p) p.length (wdP p) := by
  have F := planFacts h
  obtain ⟨hT, h1, h3⟩ := textGrid_of F.let_ F.shape
  have hN := named_of F.let_ F.shape F.named
  have hlen : (rowsOf p).length = p.length := by unfold rowsOf; rw [List.length_map]
  have hh := hT.high
  have hw := hT.wide
  change wdP p ≤ 6 at hw
  change 1 ≤ wdP p at h3
  change Named (wdP p) (fP p) (p.length * wdP p) at hN
  have hsl := scan_len (w := wdP p) (f := fP p) (p.length * wdP p)
  have hbl : (boxesP p).length = (scan (wdP p) (fP p) (p.length * wdP p)).1.length := by rw [boxesP_scan, hsl]
  have hat : ∀ i j, i < p.length → j < wdP p → i * wdP p + j < p.length * wdP p := fun i j hi hj => by
    have : (i + 1) * wdP p ≤ p.length * wdP p := Nat.mul_le_mul_right _ hi
    rw [Nat.succ_mul] at this; omega
  refine ⟨⟨h1, hh⟩, ⟨h3, hw⟩, F.few, fun i j hi hj => ⟨_, ?_, rfl⟩, fun k hk => ?_⟩
  · rw [hbl]; exact num_lt (hat i j hi hj)
  · have hk1 : k < (scan (wdP p) (fP p) (p.length * wdP p)).1.length := by rw [← hbl]; exact hk
    have hk2 : k < (scan (wdP p) (fP p) (p.length * wdP p)).2.length := by rw [← hsl]; exact hk1
    have hbox := scan_box (w := wdP p) (f := fP p) (p.length * wdP p) k hk1 hk2
    rw [named_ord hN k hk1] at hbox
    have hfu := F.full
    unfold fullB scanOf at hfu
    rw [hlen, decide_eq_true_eq] at hfu
    have har := (area_all (wdP p) p.length (fP p)).1 (by push_cast; exact hfu) k hk1 hk2
    rw [named_ord hN k hk1] at har
    have he : (boxesP p)[k] = (scan (wdP p) (fP p) (p.length * wdP p)).2[k] := by simp only [boxesP_scan]
    rw [he]
    obtain ⟨⟨b1, b2, b3, b4⟩, hb⟩ : ∃ b, (scan (wdP p) (fP p) (p.length * wdP p)).2[k] = b := ⟨_, rfl⟩
    rw [hb] at hbox har ⊢
    obtain ⟨n1, n2, n3, n4⟩ := box_nonneg hbox
    have hlow := hbox.low
    have hright := hbox.right
    have hall := hbox.all
    simp only at n1 n2 n3 n4 hlow hright hall
    obtain ⟨m1, m1a, m1b, m1c⟩ := hlow
    obtain ⟨m2, m2a, m2b, m2c⟩ := hright
    have d1 : m1 / wdP p < p.length := Nat.div_lt_of_lt_mul (by rw [Nat.mul_comm]; exact m1a)
    have d2 : m2 % wdP p < wdP p := Nat.mod_lt _ (by omega)
    refine ⟨b1.toNat, b2.toNat, b3.toNat, b4.toNat, ?_, by omega, by omega, by omega, by omega, fun i j hi hj => ?_⟩
    · unfold natB
      rw [Int.toNat_of_nonneg n1, Int.toNat_of_nonneg n2, Int.toNat_of_nonneg (by omega), Int.toNat_of_nonneg (by omega)]
    · have hnm := hN _ (hat i j hi hj)
      unfold clP
      constructor
      · intro hc
        rw [hc] at hnm
        have := hall _ (hat i j hi hj) hnm
        rw [(div_row hj).1, (div_row hj).2] at this
        omega
      · rintro ⟨⟨e1, e2⟩, e3, e4⟩
        have := box_full hbox har hi hj (by simp only; omega) (by simp only; omega) (by simp only; omega) (by simp only; omega)
        omega
theorem planTG {p : List ByteArray} (h : planG p = true) : TG p p.length (wdP p) (gridOf (clP p) 0 0) := by
  have F := planFacts h
  obtain ⟨hT, h1, h3⟩ := textGrid_of F.let_ F.shape
  have hN := named_of F.let_ F.shape F.named
  have hat : ∀ i j, i < p.length → j < wdP p → i * wdP p + j < p.length * wdP p := fun i j hi hj => by
    have : (i + 1) * wdP p ≤ p.length * wdP p := Nat.mul_le_mul_right _ hi
    rw [Nat.succ_mul] at this; omega
  have hg : ∀ i j, i < p.length → j < wdP p → fP p (i * wdP p + j) = gridOf (clP p) 0 0 i j := fun i j hi hj => by
    unfold gridOf clP
    rw [Nat.zero_add, Nat.zero_add]
    exact hN _ (hat i j hi hj)
  refine ⟨rfl, fun i hi => ?_, fun i j hi hj => ?_, fun i j hi hj => ?_, ⟨h1, hT.high⟩, ⟨h3, hT.wide⟩⟩
  · rw [rdOf_at hi]; exact hT.size i hi
  · rw [rdOf_at hi, ← hg i j hi hj]; exact hT.cell i j hi hj
  · rw [← hg i j hi hj]; exact hT.let_ _ (hat i j hi hj)
theorem FloorAt.reads {W : World} {base fb : Nat} {p : List ByteArray} (hf : FloorAt W base fb (numsOf (rowsOf p)) (scanOf (rowsOf p)).2) : FloorR W fb p.length (wdP p) (clP p) (boxesP p) := by
  obtain ⟨g, h, rv, rows, h1, h2, h3, h4, h5, h6⟩ := hf
  have hlen : (rowsOf p).length = p.length := by unfold rowsOf; rw [List.length_map]
  have hh : h = p.length := by
    rw [← h4]
    have := congrArg List.length h3
    rw [List.length_map] at this
    rw [this]
    unfold numsOf
    rw [List.length_map, List.length_range, hlen]
  subst hh
  have hfb := (Array.getElem?_eq_some_iff.1 h1).1
  have hg := (Array.getElem?_eq_some_iff.1 h2.1).1
  have hrow : ∀ r (hr : r < p.length), (rows[r]'(by omega)).2 = (List.range (wdP p)).map fun c => ((numAt (wdP p) (fP p) (r * wdP p + c) : Nat) : Int) := fun r hr => by
    have := congrArg (fun l => l[r]?) h3
    unfold numsOf at this
    rw [List.getElem?_map, List.getElem?_map, List.getElem?_range (by omega), List.getElem?_eq_getElem (by omega)] at this
    exact Option.some.inj this
  have hrooms : ∃ (RA : Option Addr) (rc : Nat), rv = .slice RA (boxesP p).length rc ∧ (boxesP p ≠ [] → ∃ rg, RA = some ⟨rg, 0, none⟩ ∧ rg < W.heap.size ∧ ∀ k (hk : k < (boxesP p).length), W.cell? ⟨rg, k * 4, none⟩ = some (.int .i64 (boxesP p)[k].1) ∧ W.cell? ⟨rg, k * 4 + 1, none⟩ = some (.int .i64 (boxesP p)[k].2.1) ∧ W.cell? ⟨rg, k * 4 + 2, none⟩ = some (.int .i64 (boxesP p)[k].2.2.1) ∧ W.cell? ⟨rg, k * 4 + 3, none⟩ = some (.int .i64 (boxesP p)[k].2.2.2)) := by
    change Rooms W base rv (boxesP p) at h5
    by_cases he : boxesP p = []
    · obtain ⟨A, c, e⟩ := own_slice h5
      exact ⟨A, c, e, fun hne => absurd he hne⟩
    · obtain ⟨rg, c, e, _, _, hlt, _, hc⟩ := Rooms.form h5 (List.length_pos_iff.2 he)
      exact ⟨_, c, e, fun _ => ⟨rg, rfl, hlt, hc⟩⟩
  obtain ⟨RA, rc, hrv, hro⟩ := hrooms
  refine ⟨g, fun r => (rows.getD r (0, [])).1, RA, rc, hfb, hg, ?_, ?_, fun r hr => ?_, hro⟩
  · rw [Lib.cell_of_heap h1]; rfl
  · rw [Lib.cell_of_heap h1, hrv]; rfl
  · have hrl : r < rows.length := by omega
    have hD : rows.getD r (0, []) = rows[r] := by rw [List.getD_eq_getElem?_getD, List.getElem?_eq_getElem hrl]; rfl
    have hI := h2.2 _ (List.getElem_mem hrl)
    have hlenr : (rows[r]).2.length = wdP p := by rw [hrow r hr, List.length_map, List.length_range]
    simp only [hD]
    refine ⟨(Array.getElem?_eq_some_iff.1 hI).1, ?_, fun c hc => ?_⟩
    · have := h2.cell r (rowV rows[r]) (by rw [List.getElem?_append_left (by rw [List.length_map]; exact hrl), List.getElem?_map, List.getElem?_eq_getElem hrl]; rfl)
      rw [this]; unfold rowV; rw [hlenr]
    · rw [hI.cell c (by omega)]
      unfold clP
      congr 2
      simp only [hrow r hr, List.getElem_map, List.getElem_range]
end Go.Proofs.Ytbpppchkgjcahaa
end
section
namespace Go.Proofs.Ytbpppchkgjcahaa
open Go.RowKit Go.Shelf Go.Proofs.YtbpppchkgjcahaaW.PrintWords Go.Proofs.YtbpppchkgjcahaaW.PrintMore
set_option linter.unusedVariables false
end Go.Proofs.Ytbpppchkgjcahaa
end
section
namespace Go.Proofs.Ytbpppchkgjcahaa
open Go.RowKit Go.Shelf Go.Proofs.YtbpppchkgjcahaaW.PrintWords Go.Proofs.YtbpppchkgjcahaaW.PrintMore
set_option linter.unusedVariables false
set_option linter.unusedSimpArgs false
end Go.Proofs.Ytbpppchkgjcahaa
end
section
namespace Go.Proofs.Ytbpppchkgjcahaa
open Go.RowKit Go.Shelf Go.Proofs.YtbpppchkgjcahaaW.PrintWords Go.Proofs.YtbpppchkgjcahaaW.PrintMore
set_option linter.unusedVariables false
end Go.Proofs.Ytbpppchkgjcahaa
end
section
namespace Go.Proofs.Ytbpppchkgjcahaa
open Go.RowKit Go.Shelf Go.Proofs.YtbpppchkgjcahaaW.PrintWords Go.Proofs.YtbpppchkgjcahaaW.PrintMore
set_option linter.unusedVariables false
set_option linter.unusedSimpArgs false
end Go.Proofs.Ytbpppchkgjcahaa
end
section
namespace Go.Proofs.Ytbpppchkgjcahaa
open Go.RowKit Go.Shelf Go.Proofs.YtbpppchkgjcahaaW.PrintWords Go.Proofs.YtbpppchkgjcahaaW.PrintMore L2
set_option linter.unusedVariables false
set_option linter.unusedSimpArgs false
theorem TG.grid {p : List ByteArray} {h w : Nat} {G : Nat → Nat → Int} (t : TG p h w G) : TextGrid p w (fun n => G (n / w) (n % w)) := by
  have hl := t.len
  have hh := t.high
  have hw := t.wide
  have hrd : ∀ i (hi : i < p.length), rdOf ByteArray.empty p (i : Int) = p[i] := fun i hi => by
    unfold rdOf
    rw [Int.toNat_natCast, List.getD_eq_getElem?_getD, List.getElem?_eq_getElem hi]
    rfl
  refine ⟨by omega, by omega, fun i hi => ?_, fun i c hi hc => ?_, fun n hn => ?_⟩
  · have := t.size i (by omega)
    rwa [hrd i hi] at this
  · have := t.cell i c (by omega) hc
    rw [hrd i hi] at this
    rw [this, (div_row hc).1, (div_row hc).2]
  · refine t.let_ _ _ ?_ (Nat.mod_lt _ (by omega))
    rw [← hl]
    exact Nat.div_lt_of_lt_mul (by rw [Nat.mul_comm]; exact hn)
theorem plan_rooms {p : List ByteArray} (h : planG p = true) : ∃ k, L2.spec_l1Rooms.f k p = some ((boxesP p).length : Int) := by
  have F := planFacts h
  obtain ⟨hT, h1, h3⟩ := textGrid_of F.let_ F.shape
  have hN := named_of F.let_ F.shape F.named
  obtain ⟨k, hk⟩ := rooms_f hT
  change Named (wdP p) (fP p) (p.length * wdP p) at hN
  change L2.spec_l1Rooms.f k p = some (rmx (fP p) (p.length * wdP p)) at hk
  rw [rmx_named hN _ (Nat.le_refl _), scan_len, ← boxesP_scan] at hk
  exact ⟨k, hk⟩
end Go.Proofs.Ytbpppchkgjcahaa
end
section
namespace Go.Proofs.Ytbpppchkgjcahaa
open Go.RowKit Go.Shelf Go.Proofs.YtbpppchkgjcahaaW.PrintWords Go.Proofs.YtbpppchkgjcahaaW.PrintMore
set_option linter.unusedVariables false
theorem plan_room {p : List ByteArray} (h : planG p = true) (k : Nat) (hk : k < (boxesP p).length) : Ev (fun n => L2.spec_l1Room.f n p (k : Int)) (boxesP p)[k] := by
  have F := planFacts h
  obtain ⟨hT, h1, h3⟩ := textGrid_of F.let_ F.shape
  have hN := named_of F.let_ F.shape F.named
  change Named (wdP p) (fP p) (p.length * wdP p) at hN
  have hsl := scan_len (w := wdP p) (f := fP p) (p.length * wdP p)
  have hbl : (boxesP p).length = (scan (wdP p) (fP p) (p.length * wdP p)).1.length := by rw [boxesP_scan, hsl]
  have hk1 : k < (scan (wdP p) (fP p) (p.length * wdP p)).1.length := by rw [← hbl]; exact hk
  have hk2 : k < (scan (wdP p) (fP p) (p.length * wdP p)).2.length := by rw [← hsl]; exact hk1
  have hbx := scan_box (w := wdP p) (f := fP p) (p.length * wdP p) k hk1 hk2
  rw [named_ord hN k hk1] at hbx
  have hex : ∃ m, m < p.length * wdP p ∧ fP p m = 97 + (k : Int) := by
    obtain ⟨m, a, b, _⟩ := hbx.top
    exact ⟨m, a, b⟩
  have hfew := F.few
  obtain ⟨ko, b, hko, hb⟩ := room_f hT h1 (k : Int) ⟨by omega, by omega⟩ hex
  have hbe := hb.unique hbx
  subst hbe
  refine ⟨ko, fun n hn => ?_⟩
  have hO := up (g := fun k' => L2.spec_l1Room.f k' p (k : Int)) (fun k' => L2.spec_l1Room.mono p (k : Int) k') hko (n - ko)
  rw [show ko + (n - ko) = n by omega] at hO
  show L2.spec_l1Room.f n p (k : Int) = _
  rw [hO]
  simp only [boxesP_scan]
theorem plan_roomsE {p : List ByteArray} (h : planG p = true) : Ev (fun n => L2.spec_l1Rooms.f n p) ((boxesP p).length : Int) := by
  obtain ⟨k, hk⟩ := plan_rooms h
  refine ⟨k, fun n hn => ?_⟩
  have hO := up (g := fun k' => L2.spec_l1Rooms.f k' p) (fun k' => L2.spec_l1Rooms.mono p k') hk (n - k)
  rwa [show k + (n - k) = n by omega] at hO
end Go.Proofs.Ytbpppchkgjcahaa
end
section
namespace Go.Proofs.Ytbpppchkgjcahaa
open Go.RowKit Go.Shelf Go.Proofs.YtbpppchkgjcahaaW.PrintWords Go.Proofs.YtbpppchkgjcahaaW.PrintMore
set_option linter.unusedVariables false
set_option linter.unusedSimpArgs false
theorem plan_small {p : List ByteArray} (h : planG p = true) : SmallP p := by
  have F := planFacts h
  have hs := namedT_small F.shape
  have e : namedT p = p := F.named
  rwa [e] at hs
theorem l6In_calls (a b c : Int) (w : World) : Calls Try.prog 130 #[.int .i64 a, .int .i64 b, .int .i64 c] w fun e w' => e = .returned (.bool (decide (b ≤ a ∧ a ≤ c))) ∧ Below w.heap.size w w' := by
  refine (L2.spec_l6In.calls a b c (decide (b ≤ a ∧ a ≤ c)) w ?_).mono fun e w' ⟨he, n, hw⟩ => ⟨he, by rw [hw]; exact pw_below_drewN (Below.refl _ _) _⟩
  unfold L2.spec_l6In.f
  split
  · rename_i h
    congr 1
    exact Bool.eq_iff_iff.2 (by simp; omega)
  · rename_i h
    congr 1
    exact Bool.eq_iff_iff.2 (by simp; omega)
set_option maxHeartbeats 4000000 in
theorem given_any (A : Option Addr) (cap : Nat) (p : List ByteArray) (hpl : planG p = true) (room : Nat) (hroom : room < (boxesP p).length) (w : World) (hr0 : Kd.C Kd.string w A p.length p) (hc0 : p.length ≤ cap) :
    Calls Try.prog 76 #[.slice A p.length cap, .int .i64 room] w fun e w' => e = .returned (.bool true) ∧ Below w.heap.size w w' := by
  have hp := plan_small hpl
  have hfew := (planFlat hpl).few
  have HPI := Aside0.mk (fun W (hW : Below w.heap.size w W) => spec_PlanIn.calls A cap p true W (Kd.C_below hr0 hW) hc0 (by unfold spec_PlanIn.f; rw [if_pos hp, hpl]))
  obtain ⟨kr, hkr⟩ := plan_rooms hpl
  have HRM := Aside0.mk (fun W (hW : Below w.heap.size w W) => L2.spec_l1Rooms.calls kr A cap p _ W (Kd.C_below hr0 hW) hc0 hkr)
  have HIN : Aside0 (∀ W, Calls Try.prog 130 #[.int .i64 room, .int .i64 0, .int .i64 (((boxesP p).length : Int) - 1)] W fun e w' => e = .returned (.bool true) ∧ Below W.heap.size W w') := ⟨fun W => by
    have := l6In_calls (room : Int) 0 (((boxesP p).length : Int) - 1) W
    rwa [decide_eq_true (by omega)] at this⟩
  obtain ⟨nb, hnb⟩ : ∃ nb, (boxesP p).length = nb := ⟨_, rfl⟩
  rw [hnb] at HRM HIN hfew hroom
  clear hr0 hkr hpl hp hnb
  go_enter Try.func76, Try.ntmps76
  go_wp2_with fail
  refine (HPI.out _ (Below.refl _ _)).mono ?_
  rintro e w1 ⟨rfl, hb1⟩
  have HB1 := Aside0.mk hb1
  clear hb1
  go_wp2_with fail
  refine (HRM.out _ HB1.out).mono ?_
  rintro e w2 ⟨rfl, hb2⟩
  have HB2 := Aside0.mk (HB1.out.trans (hb2.mono HB1.out.size))
  clear hb2
  go_wp2_with fail
  refine (HIN.out _).mono ?_
  rintro e w3 ⟨rfl, hb3⟩
  have HB3 := Aside0.mk (HB2.out.trans (hb3.mono HB2.out.size))
  clear hb3
  go_wp2_with fail
  go_ret
  exact ⟨rfl, HB3.out⟩
def SplitE (p : List ByteArray) (w w' : World) (e : Ending) : Prop := (∃ A' n' c' b q, e = .returned (.tuple #[.slice A' n' c', .bool b]) ∧ (b = true → n' = p.length ∧ q.length = p.length ∧ planG q = true ∧ w'.ownsRow w.heap.size 9 1 (.slice A' n' c') n' (encs Value.string q))) ∧ Below w.heap.size w w'
theorem putT_small {p : List ByteArray} (hp : SmallP p) (top d left w : Nat) (c : Int) : SmallP (putT p top d left w c) := by
  refine ⟨by rw [putT_len]; exact hp.1, fun s hs => ?_⟩
  unfold putT at hs
  obtain ⟨i, hi, rfl⟩ := List.mem_map.1 hs
  have hi := List.mem_range.1 hi
  have := hp.2 _ (List.getElem_mem hi)
  split
  · rw [str_size, rowPut_len, rdOf_get hi]; exact this
  · rw [rdOf_get hi]; exact this
set_option maxRecDepth 100000 in
set_option maxHeartbeats 8000000 in
theorem split_any (A : Option Addr) (cap : Nat) (p : List ByteArray) (hpl : planG p = true) (room : Nat) (hroom : room < (boxesP p).length) (s : ByteArray) (hs : s = ⟨#[104]⟩ ∨ s = ⟨#[118]⟩) (k : Nat) (hk : 1 ≤ k ∧ k ≤ 3) (w : World) (hr0 : Kd.C Kd.string w A p.length p) (hc0 : p.length ≤ cap) :
    Calls Try.prog 223 #[.slice A p.length cap, .int .i64 room, .string s, .int .i64 k] w fun e w' => SplitE p w w' e := by
  have hp := plan_small hpl
  have f := planFlat hpl
  have hhi := f.high
  have hwi := f.wide
  have t := planTG hpl
  have HGI := Aside0.mk (fun W (hW : Below w.heap.size w W) => given_any A cap p hpl room hroom W (Kd.C_below hr0 hW) hc0)
  obtain ⟨ko, hko⟩ := (plan_room hpl room hroom).ex
  obtain ⟨a, b, c, d, hbx, q1, q2, q3, q4, _⟩ := f.box room hroom
  rw [hbx] at hko
  have HRO := Aside0.mk (fun W (hW : Below w.heap.size w W) => L2.spec_l1Room.calls ko A cap p (room : Int) _ _ _ _ W (Kd.C_below hr0 hW) hc0 hko)
  have HNO := Aside0.mk none_any
  have HIN := Aside0.mk l6In_calls
  have HPU : Aside0 (∀ (W : World) (top left h wd : Nat) (T L H D : Int), Below w.heap.size w W → T = top → L = left → H = h → D = wd → top + h ≤ p.length → left + wd ≤ wdP p → Calls Try.prog 224 #[.slice A p.length cap, .int .i64 T, .int .i64 L, .int .i64 H, .int .i64 D, .int .u8 122] W fun e w' => (∃ g c', e = .returned (.slice (some ⟨g, 0, none⟩) p.length c') ∧ w'.ownsRow W.heap.size 9 1 (.slice (some ⟨g, 0, none⟩) p.length c') p.length (encs Value.string (putT p top h left wd 122))) ∧ Below W.heap.size W w') := ⟨fun W top left h wd T L H D hW e1 e2 e3 e4 h1 h2 => by
    subst e1 e2 e3 e4
    refine l1Put_any A cap p top left h wd 122 (by omega) h1 (by omega) (fun i hi => ?_) ⟨by omega, by omega⟩ W (Kd.C_below hr0 hW) hc0
    rw [t.size i hi]; omega⟩
  have HDO : Aside0 (∀ (W : World) (q : List ByteArray) (g c' : Nat), SmallP q → q.length = p.length → W.ownsRow w.heap.size 9 1 (.slice (some ⟨g, 0, none⟩) p.length c') p.length (encs Value.string q) → Calls Try.prog 162 #[.slice (some ⟨g, 0, none⟩) p.length c'] W fun e w' => (∃ A' n' c', e = .returned (.tuple #[.slice A' n' c', .bool (doneB q)]) ∧ (doneB q = true → n' = p.length ∧ w'.ownsRow W.heap.size 9 1 (.slice A' n' c') n' (encs Value.string (namedT q)))) ∧ Below W.heap.size W w') := ⟨fun W q g c' hq hl ho => by
    have := done_any (some ⟨g, 0, none⟩) c' q hq W (Kd.C_of_reads (d := ByteArray.empty) (enc := Value.string) (h1 := fun _ => rfl) (by have := own_reads_of' (d := ByteArray.empty) ho; rwa [← hl] at this)) (by have := own_cap ho; omega)
    rwa [hl] at this⟩
  have HSM := Aside0.mk (fun top h left wd => putT_small hp top h left wd 122)
  have hh4 : (c : Int) ≤ 6 := by omega
  have hw4 : (d : Int) ≤ 6 := by omega
  have ha4 : (a : Int) ≤ 6 := by omega
  have hb4 : (b : Int) ≤ 6 := by omega
  unfold natB at HRO
  obtain ⟨N, hN⟩ : ∃ N, p.length = N := ⟨_, rfl⟩
  obtain ⟨M, hM⟩ : ∃ M, wdP p = M := ⟨_, rfl⟩
  have HLEN := Aside0.mk hN
  have hk1 := hk.1
  have hk3 := hk.2
  rw [hM] at HPU q4
  have HFIN : Aside0 (∀ (W W' : World) (q : List ByteArray) (A' : Option Addr) (n' c' : Nat), q.length = p.length → Below w.heap.size w W → (doneB q = true → n' = p.length ∧ W'.ownsRow W.heap.size 9 1 (.slice A' n' c') n' (encs Value.string (namedT q))) → Below W.heap.size W W' → SplitE p w W' (.returned (.tuple #[.slice A' n' c', .bool (doneB q)]))) := ⟨fun W W' q A' n' c' hl hB h hb => by
    refine ⟨⟨A', n', c', doneB q, namedT q, rfl, fun hd => ?_⟩, hB.trans (hb.mono hB.size)⟩
    obtain ⟨h1, h2⟩ := h hd
    refine ⟨h1, by rw [namedT_len]; exact hl, ?_, own_weaken h2 hB.size⟩
    unfold doneB at hd
    rw [Bool.and_eq_true] at hd
    exact hd.2⟩
  have hq3 : a + c ≤ N := by omega
  clear hr0 hko hpl hp f t hhi hwi hbx hroom hk hM
  rw [hN]
  rw [hN] at HGI HRO HPU HDO
  clear hN
  rcases hs with rfl | rfl
  · by_cases hc : (k : Int) ≤ (c : Int) - 1
    · have HI1 : Aside0 (∀ W, Calls Try.prog 130 #[.int .i64 k, .int .i64 1, .int .i64 ((c : Int) - 1)] W fun e w' => e = .returned (.bool true) ∧ Below W.heap.size W w') := ⟨fun W => by
        have := HIN.out (k : Int) 1 ((c : Int) - 1) W
        rwa [decide_eq_true (by omega)] at this⟩
      go_enter Try.func223, Try.ntmps223
      go_wp2_with fail
      refine (HGI.out _ (Below.refl _ _)).mono ?_
      rintro e w1 ⟨rfl, hb1⟩
      have HB1 := Aside0.mk hb1
      clear hb1
      go_wp2_with fail
      refine (HRO.out _ HB1.out).mono ?_
      rintro e w2 ⟨rfl, hb2⟩
      have HB2 := Aside0.mk (HB1.out.trans (hb2.mono HB1.out.size))
      clear hb2
      go_wp2_with fail
      refine (HI1.out _).mono ?_
      rintro e w3 ⟨rfl, hb3⟩
      have HB3 := Aside0.mk (HB2.out.trans (hb3.mono HB2.out.size))
      clear hb3
      go_wp2_with fail
      refine (HPU.out _ (a + k) b (c - k) d _ _ _ _ HB3.out (by omega) (by omega) (by omega) (by omega) (by omega) (by omega)).mono ?_
      rintro e w4 ⟨⟨g4, c4, rfl, ho4⟩, hb4⟩
      have HB4 := Aside0.mk (HB3.out.trans (hb4.mono HB3.out.size))
      have HO4 := Aside0.mk (own_weaken ho4 HB3.out.size)
      clear hb4 ho4
      go_wp2_with fail
      refine (HDO.out _ _ g4 c4 (HSM.out _ _ _ _) (by rw [putT_len]; exact HLEN.out) HO4.out).mono ?_
      rintro e w5 ⟨⟨A5, n5, c5, rfl, ho5⟩, hb5⟩
      have HO5 := Aside0.mk ho5
      have HB5 := Aside0.mk hb5
      clear ho5 hb5
      go_wp2_with fail
      go_ret2
      exact HFIN.out _ _ _ _ _ _ (by rw [putT_len]) HB4.out (by rw [HLEN.out]; exact HO5.out) HB5.out
    · have HI1 : Aside0 (∀ W, Calls Try.prog 130 #[.int .i64 k, .int .i64 1, .int .i64 ((c : Int) - 1)] W fun e w' => e = .returned (.bool false) ∧ Below W.heap.size W w') := ⟨fun W => by
        have := HIN.out (k : Int) 1 ((c : Int) - 1) W
        rwa [decide_eq_false (by omega)] at this⟩
      go_enter Try.func223, Try.ntmps223
      go_wp2_with fail
      refine (HGI.out _ (Below.refl _ _)).mono ?_
      rintro e w1 ⟨rfl, hb1⟩
      have HB1 := Aside0.mk hb1
      clear hb1
      go_wp2_with fail
      refine (HRO.out _ HB1.out).mono ?_
      rintro e w2 ⟨rfl, hb2⟩
      have HB2 := Aside0.mk (HB1.out.trans (hb2.mono HB1.out.size))
      clear hb2
      go_wp2_with fail
      refine (HI1.out _).mono ?_
      rintro e w3 ⟨rfl, hb3⟩
      have HB3 := Aside0.mk (HB2.out.trans (hb3.mono HB2.out.size))
      clear hb3
      go_wp2_with fail
      refine (HNO.out _).mono ?_
      rintro e w4 ⟨⟨A4, n4, c4, rfl⟩, hb4⟩
      have HB4 := Aside0.mk (HB3.out.trans (hb4.mono HB3.out.size))
      clear hb4
      go_wp2_with fail
      go_ret2
      exact ⟨⟨_, _, _, false, [], rfl, fun h => by cases h⟩, HB4.out⟩
  · by_cases hc : (k : Int) ≤ (d : Int) - 1
    · have HI1 : Aside0 (∀ W, Calls Try.prog 130 #[.int .i64 k, .int .i64 1, .int .i64 ((d : Int) - 1)] W fun e w' => e = .returned (.bool true) ∧ Below W.heap.size W w') := ⟨fun W => by
        have := HIN.out (k : Int) 1 ((d : Int) - 1) W
        rwa [decide_eq_true (by omega)] at this⟩
      go_enter Try.func223, Try.ntmps223
      go_wp2_with fail
      refine (HGI.out _ (Below.refl _ _)).mono ?_
      rintro e w1 ⟨rfl, hb1⟩
      have HB1 := Aside0.mk hb1
      clear hb1
      go_wp2_with fail
      refine (HRO.out _ HB1.out).mono ?_
      rintro e w2 ⟨rfl, hb2⟩
      have HB2 := Aside0.mk (HB1.out.trans (hb2.mono HB1.out.size))
      clear hb2
      go_wp2_with fail
      refine (HI1.out _).mono ?_
      rintro e w3 ⟨rfl, hb3⟩
      have HB3 := Aside0.mk (HB2.out.trans (hb3.mono HB2.out.size))
      clear hb3
      go_wp2_with fail
      refine (HPU.out _ a (b + k) c (d - k) _ _ _ _ HB3.out (by omega) (by omega) (by omega) (by omega) (by omega) (by omega)).mono ?_
      rintro e w4 ⟨⟨g4, c4, rfl, ho4⟩, hb4⟩
      have HB4 := Aside0.mk (HB3.out.trans (hb4.mono HB3.out.size))
      have HO4 := Aside0.mk (own_weaken ho4 HB3.out.size)
      clear hb4 ho4
      go_wp2_with fail
      refine (HDO.out _ _ g4 c4 (HSM.out _ _ _ _) (by rw [putT_len]; exact HLEN.out) HO4.out).mono ?_
      rintro e w5 ⟨⟨A5, n5, c5, rfl, ho5⟩, hb5⟩
      have HO5 := Aside0.mk ho5
      have HB5 := Aside0.mk hb5
      clear ho5 hb5
      go_wp2_with fail
      go_ret2
      exact HFIN.out _ _ _ _ _ _ (by rw [putT_len]) HB4.out (by rw [HLEN.out]; exact HO5.out) HB5.out
    · have HI1 : Aside0 (∀ W, Calls Try.prog 130 #[.int .i64 k, .int .i64 1, .int .i64 ((d : Int) - 1)] W fun e w' => e = .returned (.bool false) ∧ Below W.heap.size W w') := ⟨fun W => by
        have := HIN.out (k : Int) 1 ((d : Int) - 1) W
        rwa [decide_eq_false (by omega)] at this⟩
      go_enter Try.func223, Try.ntmps223
      go_wp2_with fail
      refine (HGI.out _ (Below.refl _ _)).mono ?_
      rintro e w1 ⟨rfl, hb1⟩
      have HB1 := Aside0.mk hb1
      clear hb1
      go_wp2_with fail
      refine (HRO.out _ HB1.out).mono ?_
      rintro e w2 ⟨rfl, hb2⟩
      have HB2 := Aside0.mk (HB1.out.trans (hb2.mono HB1.out.size))
      clear hb2
      go_wp2_with fail
      refine (HI1.out _).mono ?_
      rintro e w3 ⟨rfl, hb3⟩
      have HB3 := Aside0.mk (HB2.out.trans (hb3.mono HB2.out.size))
      clear hb3
      go_wp2_with fail
      refine (HNO.out _).mono ?_
      rintro e w4 ⟨⟨A4, n4, c4, rfl⟩, hb4⟩
      have HB4 := Aside0.mk (HB3.out.trans (hb4.mono HB3.out.size))
      clear hb4
      go_wp2_with fail
      go_ret2
      exact ⟨⟨_, _, _, false, [], rfl, fun h => by cases h⟩, HB4.out⟩
end Go.Proofs.Ytbpppchkgjcahaa
end
