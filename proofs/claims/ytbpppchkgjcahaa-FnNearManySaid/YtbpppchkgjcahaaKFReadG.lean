/- The program's read: a grid of letters out of texts. Conditions: few texts of few bytes. -/
import Derived.Test.YtbpppchkgjcahaaKFSettled
import Derived.Lib.ConvBytes
namespace Go.Proofs.Ytbpppchkgjcahaa
open Go.RowKit Go.Shelf Go.Proofs.YtbpppchkgjcahaaW.PrintWords Go.Proofs.YtbpppchkgjcahaaW.PrintMore
set_option linter.unusedVariables false
def letB (s : ByteArray) : Bool := (bytesOf s).all fun x => decide (97 ≤ x) && decide (x ≤ 122)
def lettersB (p : List ByteArray) : Bool := p.all letB
def rowsOf (p : List ByteArray) : List (List Int) := p.map bytesOf
def ReadG (w w' : World) (p : List ByteArray) (e : Ending) : Prop :=
  (lettersB p = true ∧ ∃ w1, Below w.heap.size w w1 ∧ Settled w1 w' (rowsOf p) e) ∨ (lettersB p = false ∧ e = .returned (.tuple #[.pointer none, .bool false]) ∧ Below w.heap.size w w')
def RowAt (W : World) (rb : Nat) (xs : List Int) : Prop := ∃ rs : Array Value, W.heap[rb]? = some (Obj.cells rs 3 (0, 0)) ∧ ∀ (c : Nat) (x : Int), xs[c]? = some x → rs[c]? = some (Value.int .i64 x)
theorem RowAt.own {W : World} {base g n c : Nat} {xs : List Int} (h : W.ownsRow base 3 1 (.slice (some ⟨g, 0, none⟩) n c) n (nums .i64 xs)) : RowAt W g xs := by
  rcases h.2 with ⟨e, _⟩ | ⟨g', cap, cur, e, hg, hh, hc, hm, hs, ht⟩
  · cases e
  · injection e with e1 e2 e3
    injection e1 with e1
    injection e1 with e1
    subst e1
    refine ⟨cur, hh, fun j x hx => ?_⟩
    have : (nums .i64 xs)[j]? = some (Value.int .i64 x) := by simp [nums, hx]
    rw [← ht, List.getElem?_take] at this
    split at this
    · simpa using this
    · cases this
theorem RowAt.below {W W' : World} {rb : Nat} {xs : List Int} (h : RowAt W rb xs) (hb : ∀ j, j < W.heap.size → j = rb → W'.heap[j]? = W.heap[j]?) : RowAt W' rb xs := by
  obtain ⟨rs, h1, h2⟩ := h
  exact ⟨rs, by rw [hb rb (Array.getElem?_eq_some_iff.1 h1).1 rfl]; exact h1, h2⟩
def SoFar (W : World) (base g k c : Nat) (p : List ByteArray) : Prop := ∃ inner : List Value, W.ownsRow base 34 1 (.slice (some ⟨g, 0, none⟩) k c) k inner ∧ ∀ (r : Nat) (s : ByteArray), (p.take k)[r]? = some s → ∃ rb cr, inner[r]? = some (Value.slice (some ⟨rb, 0, none⟩) s.size cr) ∧ RowAt W rb (bytesOf s)
theorem SoFar.grid {W : World} {base g k c : Nat} {p : List ByteArray} (h : SoFar W base g k c p) (hk : k = p.length) : GridIn W g (rowsOf p) := by
  subst hk
  obtain ⟨inner, ho, hr⟩ := h
  rcases ho.2 with ⟨e, _⟩ | ⟨g', cap, cur, e, hg, hh, hc, hm, hs, ht⟩
  · cases e
  · injection e with e1 e2 e3
    injection e1 with e1
    injection e1 with e1
    subst e1
    refine ⟨cur, hh, fun r row hrow => ?_⟩
    unfold rowsOf at hrow
    rw [List.getElem?_map] at hrow
    obtain ⟨s, hs1, rfl⟩ := Option.map_eq_some_iff.1 hrow
    obtain ⟨rb, cr, h1, rs, h2, h3⟩ := hr r s (by rw [List.take_length]; exact hs1)
    refine ⟨rb, cr, ?_, rs, h2, h3⟩
    rw [bytesOf_length]
    rw [← ht, List.getElem?_take] at h1
    split at h1
    · simpa using h1
    · cases h1
theorem SoFar.move {W W' : World} {base g k c : Nat} {p : List ByteArray} (h : SoFar W base g k c p) (hb : ∀ j, j < W.heap.size → W'.heap[j]? = W.heap[j]?) : SoFar W' base g k c p := by
  obtain ⟨inner, ho, hr⟩ := h
  refine ⟨inner, own_move ho (fun j hj => hb j (ho.lt j hj).2), fun r s hs => ?_⟩
  obtain ⟨rb, cr, h1, h2⟩ := hr r s hs
  exact ⟨rb, cr, h1, h2.below (fun j hj _ => hb j hj)⟩
theorem bytes_at (s : ByteArray) (j : Nat) (hj : j < s.size) : (bytesOf s)[j]? = some (((s.data.toList.getD j 0).toNat : Nat) : Int) := by
  have h' : j < s.data.toList.length := by rw [data_length]; exact hj
  unfold bytesOf
  rw [List.getElem?_map, List.getElem?_eq_getElem h', List.getD_eq_getElem?_getD, List.getElem?_eq_getElem h']
  rfl
theorem bytes_get (s : ByteArray) (j : Nat) (hj : j < s.size) (hb : j < (bytesOf s).length) : (bytesOf s)[j] = (((s.data.toList.getD j 0).toNat : Nat) : Int) := by
  have h := bytes_at s j hj
  rw [List.getElem?_eq_getElem hb] at h
  injection h
set_option maxRecDepth 100000 in
set_option maxHeartbeats 16000000 in
theorem read_any (A : Option Addr) (cap : Nat) (p : List ByteArray) (hp : p.length ≤ 2000000) (hs : ∀ s ∈ p, s.size ≤ 2000000) (w : World) (hr0 : Kd.C Kd.string w A p.length p) (hc0 : p.length ≤ cap) :
    Calls Try.prog 132 #[.slice A p.length cap] w fun e w' => ReadG w w' p e := by
  have kb := fun (s : ByteArray) (W : World) => print_bytes (P := Try.prog) 9 29 5 Try.underlying9 Try.underlying29 Try.underlying5 s W
  have HR := Aside0.mk hr0
  have HS := Aside0.mk hs
  clear hr0 hs
  go_enter Try.func132, Try.ntmps132
  go_wp2
  go_loopw [4, 13] (fun v i wr => ∃ k g c : Nat, i = .int .i64 k ∧ k ≤ p.length ∧ v = .slice (some ⟨g, 0, none⟩) k c ∧ Aside0 (SoFar wr w.heap.size g k c p ∧ Below w.heap.size w wr ∧ lettersB (p.take k) = true)) (fun _ i _ => p.length - (intOf i).toNat)
  case atStart =>
    refine ⟨0, w.heap.size, 0, rfl, Nat.zero_le _, rfl, ⟨⟨[], World.ownsRow_made (size := 1) w #[] 0 (Nat.le_refl _) (by unfold maxLen; omega) rfl, fun r s h => by simp at h⟩, (Below.refl _ _).alloc (Nat.le_refl _) _, rfl⟩⟩
  case round =>
    obtain ⟨k, g, c, rfl, hk, rfl, HD⟩ := hrel
    obtain ⟨wo, rfl⟩ : ∃ wo : World, wo = wr := ⟨_, rfl⟩
    by_cases hlt : (k : Int) < (p.length : Int)
    · have hkl : k < p.length := by omega
      obtain ⟨ad, rfl, f0⟩ := Kd.at_string HR.out (k : Int) (by omega) hlt
      rw [Int.toNat_natCast] at f0
      obtain ⟨s, hsk⟩ : ∃ s, p[k] = s := ⟨_, rfl⟩
      have hrd : rdOf ByteArray.empty p (k : Int) = s := by unfold rdOf; rw [Int.toNat_natCast, List.getD_eq_getElem?_getD, List.getElem?_eq_getElem hkl, ← hsk]; rfl
      rw [hrd] at f0
      have hk0 : (0 : Int) ≤ (k : Int) := by omega
      have hss : s.size ≤ 2000000 := HS.out s (by rw [← hsk]; exact List.getElem_mem hkl)
      have f1 : wo.cell? (ad.add k) = some (.string s) := (HD.out.2.1.cell (p := ad.add k) (World.block_lt_of_cell? w _ f0)).trans f0
      have HSK := Aside0.mk hsk
      clear f0 hrd hsk
      go_wp2
      have hb0 : Below wo.heap.size wo (Lib.bytesWorld (wo.alloc (.cells #[] 3)) 5 s) := bytes_below (below_alloc (Below.refl _ _) _) (by simp) _ _
      have HBW := Aside0.mk hb0
      clear hb0
      go_loopw [7, 21] (fun v i w2 => ∃ j g2 c2 : Nat, i = .int .i64 j ∧ j ≤ s.size ∧ v = .slice (some ⟨g2, 0, none⟩) j c2 ∧ Aside0 (w2.ownsRow wo.heap.size 3 1 (.slice (some ⟨g2, 0, none⟩) j c2) j (nums .i64 ((bytesOf s).take j)) ∧ Below wo.heap.size wo w2 ∧ w2.heap[wo.heap.size + 1]? = (Lib.bytesWorld (wo.alloc (.cells #[] 3)) 5 s).heap[wo.heap.size + 1]? ∧ ((bytesOf s).take j).all (fun x => decide (97 ≤ x) && decide (x ≤ 122)) = true)) (fun _ i _ => s.size - (intOf i).toNat)
      case atStart =>
        refine ⟨0, wo.heap.size, 0, rfl, Nat.zero_le _, rfl, ⟨?_, HBW.out, rfl, rfl⟩⟩
        have h0 := World.ownsRow_made (base := wo.heap.size) (e := 3) (size := 1) wo #[] 0 (Nat.le_refl _) (by unfold maxLen; omega) rfl
        exact own_move h0 (fun q hq => Lib.bytesWorld_at_old _ _ _ _ (h0.lt q hq).2)
      case round =>
        obtain ⟨j, g2, c2, rfl, hj, rfl, HE⟩ := hrel
        have hj0 : (0 : Int) ≤ (j : Int) := by omega
        by_cases hjl : (j : Int) < (s.size : Int)
        · have hjs : j < s.size := by omega
          have hjb : j < (bytesOf s).length := by rw [bytesOf_length]; exact hjs
          obtain ⟨b, hb⟩ : ∃ b : Int, (((s.data.toList.getD j 0).toNat : Nat) : Int) = b := ⟨_, rfl⟩
          have hbr : 0 ≤ b ∧ b ≤ 255 := by
            have := UInt8.toNat_lt (s.data.toList.getD j 0)
            omega
          have hcell : wr.cell? ⟨wo.heap.size + 1, j, none⟩ = some (.int .u8 b) := by
            have h1 := Lib.bytesWorld_cell (wo.alloc (.cells #[] 3)) 5 s j hjs
            rw [show (wo.alloc (.cells #[] 3)).heap.size = wo.heap.size + 1 by simp] at h1
            rw [World.cell?_of_block (w := Lib.bytesWorld (wo.alloc (.cells #[] 3)) 5 s) (a := ⟨wo.heap.size + 1, j, none⟩) HE.out.2.2.1, h1, ← hb]
          have hb := (bytes_get s j hjs hjb).trans hb
          have hb0 := hbr.1
          have hb1 := hbr.2
          have HBB := Aside0.mk hb
          clear hb hbr
          by_cases hok : 97 ≤ b ∧ b ≤ 122
          · obtain ⟨ho1, ho2⟩ := hok
            have d1 : decide (b < 97) = false := decide_eq_false (by omega)
            have d2 : decide (122 < b) = false := decide_eq_false (by omega)
            go_wp2_with (at_builtin; refine print_append_num (w0 := wo) wo.heap.size rfl (.tmp 31) (.tmp 34) 34 3 .i64 8 rfl Try.underlying34 (by kernel_rfl) (by omega) _ ((bytesOf s).take j) b rfl rfl ?k1 HE.out.2.1 HE.out.2.1.size ?k2 ?_; (case k1 => rw [List.length_take, Nat.min_eq_left (by omega)]; exact HE.out.1); (case k2 => rw [List.length_take, Nat.min_eq_left (by omega)]; omega); intro v1 w1 ho hB hg hat; have HO1 := Aside0.mk ho; have HB1 := Aside0.mk hB; have HG1 := Aside0.mk hg; clear ho hB hg hat)
            have hlen : ((bytesOf s).take j ++ [b]).length = j + 1 := by rw [List.length_append, List.length_take, Nat.min_eq_left (by omega)]; rfl
            obtain ⟨g3, c3, rfl⟩ : ∃ g3 c3, v1 = .slice (some ⟨g3, 0, none⟩) (j + 1) c3 := by
              have h := HO1.out
              rw [hlen] at h
              rcases h.2 with ⟨_, e⟩ | ⟨g3, c3, cur, e, _⟩
              · omega
              · exact ⟨g3, c3, e⟩
            go_roundw
            case rel =>
              have htk : (bytesOf s).take (j + 1) = (bytesOf s).take j ++ [b] := by rw [List.take_succ_eq_append_getElem hjb, HBB.out]
              refine ⟨j + 1, g3, c3, by go_num, by omega, rfl, ⟨?_, HB1.out, ?_, ?_⟩⟩
              · have h := HO1.out
                rw [hlen] at h
                rw [htk]; exact h
              · rw [HG1.out.block (wo.heap.size + 1) ?_ ?_]
                · exact HE.out.2.2.1
                · have h1 := Lib.bytesWorld_at_new (wo.alloc (.cells #[] 3)) 5 s
                  rw [show (wo.alloc (.cells #[] 3)).heap.size = wo.heap.size + 1 by simp, ← HE.out.2.2.1] at h1
                  exact (Array.getElem?_eq_some_iff.1 h1).1
                · intro e
                  have h1 := Lib.bytesWorld_at_new (wo.alloc (.cells #[] 3)) 5 s
                  rw [show (wo.alloc (.cells #[] 3)).heap.size = wo.heap.size + 1 by simp, ← HE.out.2.2.1] at h1
                  obtain ⟨cs, hcs⟩ := own_typed HE.out.1 _ e.symm
                  rw [hcs] at h1
                  injection h1 with h1
                  injection h1 with _ h1
                  exact absurd h1 (by decide)
              · rw [htk, List.all_append, HE.out.2.2.2]
                simp [ho1, ho2]
            case measure => simp [intOf]; omega
          · have hbad : lettersB p = false := by
              unfold lettersB
              rw [List.all_eq_false]
              refine ⟨s, by rw [← HSK.out]; exact List.getElem_mem hkl, ?_⟩
              unfold letB
              rw [Bool.not_eq_true, List.all_eq_false]
              refine ⟨b, by rw [← HBB.out]; exact List.getElem_mem hjb, ?_⟩
              rw [Bool.not_eq_true, Bool.and_eq_false_iff, decide_eq_false_iff_not, decide_eq_false_iff_not]
              omega
            have HBAD := Aside0.mk hbad
            clear hbad
            by_cases hlo : b < 97
            · have d1 : decide (b < 97) = true := decide_eq_true hlo
              clear hok hlo
              go_wp2
              go_ret2
              exact .inr ⟨HBAD.out, rfl, HD.out.2.1.trans (HE.out.2.1.mono HD.out.2.1.size)⟩
            · have d1 : decide (b < 97) = false := decide_eq_false hlo
              have d2 : decide (122 < b) = true := decide_eq_true (by omega)
              clear hok hlo
              go_wp2
              go_ret2
              exact .inr ⟨HBAD.out, rfl, HD.out.2.1.trans (HE.out.2.1.mono HD.out.2.1.size)⟩
        · have hjs : j = s.size := by omega
          subst hjs
          obtain ⟨inner, hin, hrows⟩ := HD.out.1
          have hil : inner.length = k := by have := hin.1; omega
          have HIN : Aside0 (wr.ownsRow w.heap.size 34 1 (.slice (some ⟨g, 0, none⟩) k c) inner.length inner) := ⟨by rw [hil]; exact own_move hin (fun q hq => HE.out.2.1.block q (hin.lt q hq).2)⟩
          have HROWS := Aside0.mk hrows
          have HIL := Aside0.mk hil
          have HBEL : Aside0 (Below w.heap.size w wr) := ⟨HD.out.2.1.trans (HE.out.2.1.mono HD.out.2.1.size)⟩
          clear hin hrows hil
          go_wp2_with (at_builtin; refine print_append (w0 := w) w.heap.size rfl (.tmp 37) (.tmp 39) 65 34 (.slice none 0 0) 24 rfl Try.underlying65 (by kernel_rfl) rfl (by omega) _ inner (.slice (some ⟨g2, 0, none⟩) s.size c2) rfl rfl rfl HIN.out HBEL.out HBEL.out.size ?k3 ?_; (case k3 => rw [HIL.out]; omega); intro v1 w1 ho hB hg hat; have HO1 := Aside0.mk ho; have HB1 := Aside0.mk hB; have HG1 := Aside0.mk hg; clear ho hB hg hat)
          have hlen : (inner ++ [Value.slice (some ⟨g2, 0, none⟩) s.size c2]).length = k + 1 := by rw [List.length_append, HIL.out]; rfl
          obtain ⟨g3, c3, rfl⟩ : ∃ g3 c3, v1 = .slice (some ⟨g3, 0, none⟩) (k + 1) c3 := by
            have h := HO1.out
            rw [hlen] at h
            rcases h.2 with ⟨_, e⟩ | ⟨g3, c3, cur, e, _⟩
            · omega
            · exact ⟨g3, c3, e⟩
          go_roundw
          case rel =>
            have hgt : ∃ cs, wr.heap[g]? = some (Obj.cells cs 34 (0, 0)) := own_typed HIN.out g rfl
            have hstay : ∀ q (cs : Array Value), wr.heap[q]? = some (Obj.cells cs 3 (0, 0)) → w1.heap[q]? = some (Obj.cells cs 3 (0, 0)) := fun q cs hq => by
              rw [HG1.out.block q (Array.getElem?_eq_some_iff.1 hq).1 (fun e => by
                obtain ⟨cs2, h2⟩ := hgt
                injection e with e
                rw [e, h2] at hq
                injection hq with hq
                injection hq with _ hq
                exact absurd hq (by decide)), hq]
            have hrow : ∀ q xs, RowAt wr q xs → RowAt w1 q xs := fun q xs hq => by
              obtain ⟨rs, h1, h2⟩ := hq
              exact ⟨rs, hstay q rs h1, h2⟩
            have htk : p.take (k + 1) = p.take k ++ [s] := by rw [List.take_succ_eq_append_getElem hkl, HSK.out]
            refine ⟨k + 1, g3, c3, by go_num, by omega, rfl, ⟨⟨inner ++ [Value.slice (some ⟨g2, 0, none⟩) s.size c2], ?_, ?_⟩, HB1.out, ?_⟩⟩
            · have h := HO1.out
              rw [hlen] at h
              exact h
            · intro r t hr
              rw [htk] at hr
              by_cases hrk : r < k
              · rw [List.getElem?_append_left (by rw [List.length_take]; omega)] at hr
                obtain ⟨rb, cr, h1, h2⟩ := HROWS.out r t hr
                refine ⟨rb, cr, by rw [List.getElem?_append_left (by rw [HIL.out]; exact hrk)]; exact h1, hrow _ _ (h2.below (fun q hq _ => HE.out.2.1.block q hq))⟩
              · have hlt2 := (List.getElem?_eq_some_iff.1 hr).1
                rw [List.length_append, List.length_take, List.length_singleton] at hlt2
                have hrk2 : r = k := by omega
                subst hrk2
                have hst : t = s := by
                  rw [List.getElem?_append_right (by rw [List.length_take]; omega), List.length_take, Nat.min_eq_left (by omega), Nat.sub_self] at hr
                  simp at hr
                  exact hr.symm
                subst hst
                refine ⟨g2, c2, by rw [List.getElem?_append_right (by rw [HIL.out]; exact Nat.le_refl _), HIL.out, Nat.sub_self]; rfl, hrow _ _ ?_⟩
                have h := HE.out.1
                rw [show (bytesOf t).take t.size = bytesOf t by rw [← bytesOf_length, List.take_length]] at h
                exact RowAt.own h
            · rw [htk]
              unfold lettersB
              rw [List.all_append]
              have h1 := HD.out.2.2
              unfold lettersB at h1
              rw [h1]
              have h2 := HE.out.2.2.2
              rw [show (bytesOf s).take s.size = bytesOf s by rw [← bytesOf_length, List.take_length]] at h2
              simp [letB, h2]
          case measure => simp [intOf]; omega
    · have hkp : k = p.length := by omega
      have hrl : (rowsOf p).length = p.length := by unfold rowsOf; rw [List.length_map]
      have hok : lettersB p = true := by have := HD.out.2.2; rwa [hkp, List.take_length] at this
      have hset := settled_any g c (rowsOf p) (by rw [hrl]; omega) wo (HD.out.1.grid hkp) (fun row hrow x hx => by
        unfold rowsOf at hrow
        obtain ⟨s, hs, rfl⟩ := List.mem_map.1 hrow
        unfold lettersB at hok
        have h1 := List.all_eq_true.1 hok s hs
        unfold letB at h1
        have h2 := List.all_eq_true.1 h1 x hx
        rw [Bool.and_eq_true, decide_eq_true_eq, decide_eq_true_eq] at h2
        omega) (fun row hrow => by
        unfold rowsOf at hrow
        obtain ⟨s, hs, rfl⟩ := List.mem_map.1 hrow
        rw [bytesOf_length]
        have := HS.out s hs
        omega)
      rw [hrl, ← hkp] at hset
      have HOK := Aside0.mk hok
      have HKP := Aside0.mk hkp
      rw [← hkp]
      clear hkp hrl hok
      go_wp2_with fail
      refine hset.mono ?_
      rintro e w' hS
      have HST := Aside0.mk hS
      rcases hS with ⟨_, ⟨_, fb, rfl, _⟩ | ⟨_, rfl⟩⟩
      · go_wp2_with fail
        go_ret2
        exact .inl ⟨HOK.out, wo, HD.out.2.1, HST.out⟩
      · go_wp2_with fail
        go_ret2
        exact .inl ⟨HOK.out, wo, HD.out.2.1, HST.out⟩
end Go.Proofs.Ytbpppchkgjcahaa
