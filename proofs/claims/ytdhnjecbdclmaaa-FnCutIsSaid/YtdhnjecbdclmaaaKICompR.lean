/- slices.CompactFunc on the rows of a grid, with slices.Equal: the rows that are kept. -/
import Derived.Test.YtdhnjecbdclmaaaKIFourDM
import Derived.Deep.LoopGhost
import Derived.Deep.Draws
import Derived.Sort.Row
import Derived.Lib.SliceRun
import Derived.Lib.SlicesCompact
namespace Go.Proofs.Ytdhnjecbdclmaaa
open Go.RowKit Go.Shelf Go.Lib Go.Sort Go.Proofs.YtdhnjecbdclmaaaW.PrintWords Go.Proofs.YtdhnjecbdclmaaaW.PrintMore
set_option linter.unusedVariables false
set_option linter.unusedSimpArgs false
def encO (rb : Nat → Nat) (wd : Nat) : Option Nat → Value
  | none => .slice none 0 0
  | some i => .slice (some ⟨rb i, 0, none⟩) wd wd
def contR (kept : Nat → Bool) (n m : Nat) : List (Option Nat) := (keptL kept m).map some ++ ((List.range n).drop (keptL kept m).length).map some
theorem keptL_le (kept : Nat → Bool) (m : Nat) : (keptL kept m).length ≤ m := by
  unfold keptL
  exact Nat.le_trans (List.length_filter_le _ _) (by rw [List.length_range]; exact Nat.le_refl _)
theorem keptL_yes {kept : Nat → Bool} {m : Nat} (h : kept m = true) : keptL kept (m + 1) = keptL kept m ++ [m] := by
  unfold keptL
  rw [List.range_succ, List.filter_append, List.filter_cons, if_pos h]; rfl
theorem keptL_no {kept : Nat → Bool} {m : Nat} (h : kept m = false) : keptL kept (m + 1) = keptL kept m := by
  unfold keptL
  rw [List.range_succ, List.filter_append, List.filter_cons, if_neg (by rw [h]; simp)]
  simp
theorem keptL_all {kept : Nat → Bool} {m : Nat} (h : ∀ j, j < m → kept j = true) : keptL kept m = List.range m := by
  unfold keptL
  exact List.filter_eq_self.2 fun a ha => h a (List.mem_range.1 ha)
theorem contR_len {kept : Nat → Bool} {n m : Nat} (h : m ≤ n) : (contR kept n m).length = n := by
  have := keptL_le kept m
  unfold contR
  rw [List.length_append, List.length_map, List.length_map, List.length_drop, List.length_range]; omega
theorem contR_high {kept : Nat → Bool} {n m j : Nat} (h : m ≤ n) (h1 : (keptL kept m).length ≤ j) (h2 : j < n) : (contR kept n m)[j]? = some (some j) := by
  unfold contR
  rw [List.getElem?_append_right (by rw [List.length_map]; exact h1), List.length_map, List.getElem?_map, List.getElem?_drop, show (keptL kept m).length + (j - (keptL kept m).length) = j by omega, List.getElem?_range h2]
  rfl
theorem contR_start {kept : Nat → Bool} {n m : Nat} (h : m ≤ n) (hk : ∀ j, j < m → kept j = true) : contR kept n m = (List.range n).map some := by
  unfold contR
  rw [keptL_all hk, List.length_range, ← List.map_append]
  congr 1
  apply List.ext_getElem?
  intro i
  by_cases hi : i < m
  · rw [List.getElem?_append_left (by rw [List.length_range]; exact hi), List.getElem?_range hi, List.getElem?_range (by omega)]
  · rw [List.getElem?_append_right (by rw [List.length_range]; omega), List.length_range, List.getElem?_drop, show m + (i - m) = i by omega]
theorem contR_keep {kept : Nat → Bool} {n m : Nat} (h : m < n) (hk : kept m = true) : (contR kept n m).set (keptL kept m).length (some m) = contR kept n (m + 1) := by
  have hl := keptL_le kept m
  unfold contR
  rw [keptL_yes hk, List.length_append]
  show _ = List.map some (keptL kept m ++ [m]) ++ List.map some (List.drop ((keptL kept m).length + 1) (List.range n))
  rw [List.set_append, if_neg (by rw [List.length_map]; omega), List.length_map, Nat.sub_self, List.map_append, List.append_assoc]
  congr 1
  rw [List.drop_eq_getElem_cons (by rw [List.length_range]; omega)]
  rfl
theorem contR_skip {kept : Nat → Bool} {n m : Nat} (hk : kept m = false) : contR kept n (m + 1) = contR kept n m := by
  unfold contR
  rw [keptL_no hk]
theorem rows_same (cl : Nat → Nat → Int) (wd i : Nat) (hi : 1 ≤ i) : ((((List.range wd).map (cl i)).take wd == ((List.range wd).map (cl (i - 1))).take wd)) = !keptR cl wd i := by
  rw [List.take_of_length_le (by simp), List.take_of_length_le (by simp)]
  have h0 : decide (i = 0) = false := decide_eq_false (by omega)
  unfold keptR
  rw [h0, Bool.false_or]
  by_cases h : (List.range wd).any (fun j => cl i j != cl (i - 1) j) = true
  · rw [h]
    obtain ⟨j, hj, hne⟩ := List.any_eq_true.1 h
    refine beq_eq_false_iff_ne.2 fun e => ?_
    have hj := List.mem_range.1 hj
    have := congrArg (fun l => l[j]?) e
    simp only [List.getElem?_map, List.getElem?_range hj, Option.map_some, Option.some.injEq] at this
    exact (bne_iff_ne.1 hne) this
  · have h := Bool.eq_false_iff.2 h
    rw [h]
    refine beq_iff_eq.2 (List.map_congr_left fun j hj => ?_)
    have := List.any_eq_false.1 h j hj
    exact Classical.byContradiction fun hne => this (bne_iff_ne.2 hne)
theorem equal_rows (rb : Nat → Nat) (cl : Nat → Nat → Int) (n wd i : Nat) (hwd : wd ≤ 6) (hi : 1 ≤ i) (hin : i < n) (W : World) (hr : ∀ k, k < n → ∀ c, c < wd → W.cell? ⟨rb k, c, none⟩ = some (.int .i64 (cl k c))) :
    Calls Try.prog 112 #[.slice (some ⟨rb i, 0, none⟩) wd wd, .slice (some ⟨rb (i - 1), 0, none⟩) wd wd] W fun e w' => e = .returned (.bool (!keptR cl wd i)) ∧ ∃ m, w' = W.drewN m := by
  rw [← rows_same cl wd i hi]
  refine Try.slices_Equal_int (rb i) 0 wd wd (rb (i - 1)) 0 wd wd ((List.range wd).map (cl i)) ((List.range wd).map (cl (i - 1))) W (by simp) (by simp) (by omega) (by omega) ?_ ?_
  · intro j hj
    have hj : j < wd := by simpa using hj
    rw [Nat.zero_add, hr i hin j hj, List.getD_eq_getElem?_getD, List.getElem?_map, List.getElem?_range hj]; rfl
  · intro j hj
    have hj : j < wd := by simpa using hj
    rw [Nat.zero_add, hr (i - 1) (by omega) j hj, List.getD_eq_getElem?_getD, List.getElem?_map, List.getElem?_range hj]; rfl
def RowW (rb : Nat → Nat) (wd B : Nat) (w wr : World) (d : List (Option Nat)) : Prop := ∃ q, wr = putRow (encO rb wd) (Sort.ahead w q) B 0 d.toArray
theorem RowW.cells {rb : Nat → Nat} {wd B n : Nat} {w wr : World} {d : List (Option Nat)} (hH : Holds (encO rb wd) w B 0 ((List.range n).map some).toArray) (h : RowW rb wd B w wr d) (hl : d.length = n) {j : Nat} {x : Option Nat} (hj : d[j]? = some x) : wr.cell? ⟨B, j, none⟩ = some (encO rb wd x) ∧ wr.frozen? ⟨B, j, none⟩ = false := by
  obtain ⟨q, rfl⟩ := h
  obtain ⟨hjl, hx⟩ := List.getElem?_eq_some_iff.1 hj
  have h1 := holds_putRow (encO rb wd) (Sort.ahead w q) B 0 _ d.toArray (holds_ahead _ w q B 0 _ hH) (by simp; omega) j (by simpa using hjl)
  rw [Nat.zero_add] at h1
  refine ⟨h1.1.trans ?_, h1.2⟩
  rw [getElem!_pos _ j (by simpa using hjl)]
  simp [hx]
theorem RowW.rows {rb : Nat → Nat} {wd B : Nat} {w wr : World} {d : List (Option Nat)} (h : RowW rb wd B w wr d) {a : Addr} (ha : a.block ≠ B) : wr.cell? a = w.cell? a := by
  obtain ⟨q, rfl⟩ := h
  rw [cell?_putRow_other _ _ _ _ _ _ (.inl ha)]; rfl
theorem RowW.drew {rb : Nat → Nat} {wd B : Nat} {w wr : World} {d : List (Option Nat)} (h : RowW rb wd B w wr d) (m : Nat) : RowW rb wd B w (wr.drewN m) d := by
  obtain ⟨q, rfl⟩ := h
  exact ⟨q + m, by simp [putRow, mapBlock, Sort.ahead, World.drewN, Nat.add_assoc]⟩
theorem RowW.set {rb : Nat → Nat} {wd B : Nat} {w wr : World} {d : List (Option Nat)} (h : RowW rb wd B w wr d) {i : Nat} (hi : i < d.length) (x : Option Nat) : RowW rb wd B w (wr.setCell ⟨B, i, none⟩ (encO rb wd x)) (d.set i x) := by
  obtain ⟨q, rfl⟩ := h
  refine ⟨q, ?_⟩
  have := putRow_set (encO rb wd) (Sort.ahead w q) B 0 d.toArray i x (by simpa using hi)
  rw [Nat.zero_add] at this
  rw [this]; simp
theorem RowW.below {rb : Nat → Nat} {wd B b : Nat} {w wr : World} {d : List (Option Nat)} (h : RowW rb wd B w wr d) (hb : b ≤ B) : Below b w wr := by
  obtain ⟨q, rfl⟩ := h
  refine ⟨rfl, rfl, rfl, by rw [size_putRow]; exact Nat.le_refl _, fun k hk => ?_⟩
  show (Array.modify _ _ _)[k]? = _
  rw [Array.getElem?_modify, if_neg (by omega)]; rfl
theorem RowW.fill {rb : Nat → Nat} {wd B : Nat} {w wr : World} {d : List (Option Nat)} (h : RowW rb wd B w wr d) {k : Nat} (hk : k ≤ d.length) : RowW rb wd B w (wr.setCells B k (List.replicate (d.length - k) (.slice none 0 0))) (d.take k ++ List.replicate (d.length - k) none) := by
  obtain ⟨q, rfl⟩ := h
  refine ⟨q, ?_⟩
  have := putRow_setCells (encO rb wd) (Sort.ahead w q) B 0 (List.replicate (d.length - k) none) d.toArray k (by simp; omega)
  rw [Nat.zero_add, List.map_replicate] at this
  refine this.trans ?_
  congr 1
  apply Array.ext_getElem?
  intro j
  rw [lay_get? _ _ _ _ (by simp; omega)]
  simp only [List.length_replicate, List.getElem?_toArray]
  by_cases c : j < k
  · rw [if_neg (by omega), List.getElem?_append_left (by rw [List.length_take]; omega), List.getElem?_take_of_lt c]
  · have e : (d.take k).length = k := by rw [List.length_take]; omega
    rw [List.getElem?_append_right (by omega), e]
    by_cases c2 : j < d.length
    · rw [if_pos (by omega)]
    · rw [if_neg (by omega), List.getElem?_eq_none (by omega), List.getElem?_eq_none (by rw [List.length_replicate]; omega)]
set_option maxRecDepth 1000000 in
set_option maxHeartbeats 8000000 in
theorem compactRows_any (B cap n wd : Nat) (rb : Nat → Nat) (cl : Nat → Nat → Int) (w : World) (hn : 1 ≤ n ∧ n ≤ 6) (hwd : wd ≤ 6) (hcap : n ≤ cap) (hH : Holds (encO rb wd) w B 0 ((List.range n).map some).toArray) (hr : ∀ k, k < n → rb k ≠ B ∧ ∀ c, c < wd → w.cell? ⟨rb k, c, none⟩ = some (.int .i64 (cl k c))) :
    Calls Try.prog 110 #[.slice (some ⟨B, 0, none⟩) n cap, .func (.func 112) #[] #[]] w fun e w' => e = .returned (.slice (some ⟨B, 0, none⟩) (tightH cl n wd) cap) ∧ RowW rb wd B w w' ((keptL (keptR cl wd) n).map some ++ List.replicate (n - tightH cl n wd) none) := by
  obtain ⟨kept, hkept⟩ : ∃ kept, keptR cl wd = kept := ⟨_, rfl⟩
  have h0 : kept 0 = true := by rw [← hkept]; rfl
  have HS : Aside0 (∀ q, (∀ j, j < n → kept j = true) → tightH cl n wd = n ∧ RowW rb wd B w (w.drewN q) ((keptL kept n).map some ++ List.replicate (n - tightH cl n wd) none)) := by
    refine ⟨fun q hall => ?_⟩
    have e : tightH cl n wd = n := by unfold tightH; rw [hkept, keptL_all hall, List.length_range]
    refine ⟨e, q, ?_⟩
    rw [e, Nat.sub_self, List.replicate_zero, List.append_nil, keptL_all hall]
    exact (putRow_self (encO rb wd) (Sort.ahead w q) B 0 _ (holds_ahead _ w q B 0 _ hH)).symm
  have HC : Aside0 (∀ j, j < n → w.cell? ⟨B, j, none⟩ = some (.slice (some ⟨rb j, 0, none⟩) wd wd)) := ⟨fun j hj => by
    have := (hH j (by simpa using hj)).1
    rw [Nat.zero_add, getElem!_pos _ j (by simpa using hj)] at this
    rw [this]; simp [encO]⟩
  have HEQ : Aside0 (∀ i W, 1 ≤ i → i < n → (∀ a : Addr, a.block ≠ B → W.cell? a = w.cell? a) → Calls Try.prog 112 #[.slice (some ⟨rb i, 0, none⟩) wd wd, .slice (some ⟨rb (i - 1), 0, none⟩) wd wd] W fun e w' => e = .returned (.bool (!kept i)) ∧ ∃ m, w' = W.drewN m) := ⟨fun i W h1 h2 h3 => by
    rw [← hkept]
    exact equal_rows rb cl n wd i hwd h1 h2 W fun k hk c hc => (h3 ⟨rb k, c, none⟩ (hr k hk).1).trans ((hr k hk).2 c hc)⟩
  have HT : Aside0 ((keptL kept n).length = tightH cl n wd) := ⟨by unfold tightH; rw [hkept]⟩
  rw [hkept]
  have HH := Aside0.mk hH
  clear hH hr hkept
  by_cases h2 : n < 2
  · obtain ⟨e1, e2⟩ := HS.out 0 (fun j hj => by obtain rfl : j = 0 := (by omega); exact h0)
    have E := Aside0.mk e2
    rw [e1] at E ⊢
    clear e2 e1
    go_enter Try.func110, Try.ntmps110
    go_wp2_with fail
    go_ret
    exact ⟨rfl, E.out⟩
  · go_enter Try.func110, Try.ntmps110
    go_wp2_with fail
    go_loopg [5] n (fun g s5 wr => ∃ k q : Nat, 1 ≤ k ∧ k ≤ n ∧ n - k ≤ g ∧ s5 = .int .i64 k ∧ wr = w.drewN q ∧ Aside0 (∀ j, j < k → kept j = true))
    case atStart => exact ⟨1, 0, Nat.le_refl _, by omega, by omega, rfl, rfl, ⟨fun j hj => by obtain rfl : j = 0 := (by omega); exact h0⟩⟩
    case round =>
      obtain ⟨k, q, hk1, hk, hg, rfl, rfl, HA⟩ := hrel
      by_cases hlt : k < n
      · have c1 := HC.out k hlt
        have c0 := HC.out (k - 1) (by omega)
        have n1 : (k : Int) < (n : Int) := by omega
        have n2 : ((k - 1 : Nat) : Int) < (n : Int) := by omega
        have w1 : IntKind.i64.wrap ((k : Int) - 1) = ((k - 1 : Nat) : Int) := by rw [IntKind.wrap_i64]; omega
        have w3 : wrap64 ((k : Int) - 1) = ((k - 1 : Nat) : Int) := by unfold wrap64; omega
        have HE : Aside0 (∀ m, Calls Try.prog 112 #[.slice (some ⟨rb k, 0, none⟩) wd wd, .slice (some ⟨rb (k - 1), 0, none⟩) wd wd] (w.drewN (q + m)) fun e w' => e = .returned (.bool (!kept k)) ∧ ∃ m', w' = w.drewN (q + m')) := ⟨fun m => (HEQ.out k (w.drewN (q + m)) hk1 hlt (fun a ha => rfl)).mono fun e w' ⟨h1, m', h2⟩ => ⟨h1, m + m', by rw [h2, World.drewN_drewN, Nat.add_assoc]⟩⟩
        cases hkk : kept k with
        | true =>
          rw [hkk] at HE
          have HK := Aside0.mk hkk
          clear hkk
          go_wp2_with fail
          go_quiet ((exact HE.out _))
          go_wp2_with fail
          go_roundg (n - (k + 1))
          case measure => omega
          case rel => exact ⟨k + 1, _, by omega, by omega, Nat.le_refl _, by go_num, rfl, ⟨fun j hj => if e : j = k then by rw [e]; exact HK.out else HA.out j (by omega)⟩⟩
        | false =>
          rw [hkk] at HE
          have HK := Aside0.mk hkk
          have eL : keptL kept (k + 1) = List.range k := by rw [keptL_no hkk, keptL_all HA.out]
          have eC : contR kept n (k + 1) = (List.range n).map some := by rw [contR_skip hkk, contR_start hk HA.out]
          have HL := Aside0.mk eL
          have HN := Aside0.mk eC
          clear hkk eL eC
          go_wp2_with fail
          go_quiet ((exact HE.out _))
          go_wp2_with fail
          clear c0 c1
          go_loopg [5, 7] n (fun g s5 s7 wr => ∃ kk k2 : Nat, s5 = .int .i64 kk ∧ s7 = .int .i64 k2 ∧ 1 ≤ k2 ∧ k + k2 ≤ n ∧ n - (k + k2) ≤ g ∧ Aside0 (kk = (keptL kept (k + k2)).length) ∧ kk < k + k2 ∧ Aside0 (RowW rb wd B w wr (contR kept n (k + k2))))
          case atStart =>
            refine ⟨k, 1, rfl, rfl, Nat.le_refl _, by omega, by omega, ⟨by rw [HL.out, List.length_range]⟩, by omega, ⟨?_⟩⟩
            rw [HN.out]
            exact ⟨q + nq, (putRow_self (encO rb wd) (Sort.ahead w (q + nq)) B 0 _ (holds_ahead _ w (q + nq) B 0 _ HH.out)).symm⟩
          case round =>
            obtain ⟨kk, k2, rfl, rfl, h1, hle, hg2, HKL, hkm, HR⟩ := hrel
            by_cases hlt2 : k + k2 < n
            · obtain ⟨cm, _⟩ := RowW.cells HH.out HR.out (contR_len hle) (contR_high hle (j := k + k2) (by have := HKL.out; omega) hlt2)
              obtain ⟨cp, _⟩ := RowW.cells HH.out HR.out (contR_len hle) (contR_high hle (j := k + k2 - 1) (by have := HKL.out; omega) (by omega))
              obtain ⟨ck, fk⟩ := RowW.cells HH.out HR.out (contR_len hle) (contR_high hle (j := kk) (by have := HKL.out; omega) (by omega))
              rw [show k + k2 - 1 = k + (k2 - 1) by omega] at cp
              have HE2 : Aside0 (∀ m, Calls Try.prog 112 #[.slice (some ⟨rb (k + k2), 0, none⟩) wd wd, .slice (some ⟨rb (k + (k2 - 1)), 0, none⟩) wd wd] (wr.drewN m) fun e w' => e = .returned (.bool (!kept (k + k2))) ∧ ∃ m', w' = wr.drewN m') := ⟨fun m => by
                have := HEQ.out (k + k2) (wr.drewN m) (by omega) hlt2 (fun a ha => HR.out.rows ha)
                rw [show k + k2 - 1 = k + (k2 - 1) by omega] at this
                exact this.mono fun e w' ⟨h1, m', h2⟩ => ⟨h1, m + m', by rw [h2, World.drewN_drewN]⟩⟩
              simp only [encO] at cm cp ck
              cases hkk2 : kept (k + k2) with
              | false =>
                rw [hkk2] at HE2
                have HK2 := Aside0.mk hkk2
                clear hkk2
                go_wp2_with fail
                go_quiet ((exact HE2.out _))
                go_wp2_with fail
                go_roundg (n - (k + (k2 + 1)))
                case measure => omega
                case rel => exact ⟨kk, k2 + 1, rfl, by go_num, by omega, by omega, Nat.le_refl _, ⟨by rw [HKL.out, show k + (k2 + 1) = k + k2 + 1 by omega, keptL_no HK2.out]⟩, by omega, ⟨by rw [show k + (k2 + 1) = k + k2 + 1 by omega, contR_skip HK2.out]; exact HR.out.drew _⟩⟩
              | true =>
                rw [hkk2] at HE2
                have HK2 := Aside0.mk hkk2
                clear hkk2
                go_wp2_with fail
                go_quiet ((exact HE2.out _))
                go_wp2_with fail
                all_goals
                  go_roundg (n - (k + (k2 + 1)))
                  case measure => omega
                  case rel =>
                    refine ⟨kk + 1, k2 + 1, by go_num, by go_num, by omega, by omega, Nat.le_refl _, ⟨by rw [HKL.out, show k + (k2 + 1) = k + k2 + 1 by omega, keptL_yes HK2.out, List.length_append]; rfl⟩, by omega, ⟨?_⟩⟩
                    rw [show k + (k2 + 1) = k + k2 + 1 by omega, ← contR_keep hlt2 HK2.out, ← HKL.out]
                    first
                      | exact (HR.out.drew _).set (by rw [contR_len hle]; omega) (some (k + k2))
                      | exact ((HR.out.drew _).set (by rw [contR_len hle]; omega) (some (k + k2))).drew 1
            · have hend : k + k2 = n := by omega
              have hcl : ∀ ty, (Builtin.clear_ #[77] ty #[.slice (some ⟨B, kk, none⟩) (n - kk) (cap - kk)]).run Try.prog wr = .ok (.tuple #[]) (wr.setCells B kk (List.replicate (n - kk) (.slice none 0 0))) :=
                fun ty => Lib.run_clear_slice wr _ _ ty _ Try.underlying77 Try.zeroValue37 rfl rfl B kk _ _ (by omega)
                  (fun j hj => by rw [(RowW.cells HH.out HR.out (contR_len hle) (contR_high hle (j := kk + j) (by have := HKL.out; omega) (by omega))).1]; rfl)
                  (fun j hj => (RowW.cells HH.out HR.out (contR_len hle) (contR_high hle (j := kk + j) (by have := HKL.out; omega) (by omega))).2)
              go_wp2_with fail
              go_ret
              have hR := HR.out
              have hk := HKL.out
              rw [hend] at hR hk
              rw [HT.out] at hk
              have hf := hR.fill (k := kk) (by rw [contR_len (Nat.le_refl _)]; omega)
              rw [contR_len (Nat.le_refl _)] at hf
              subst hk
              refine ⟨rfl, ?_⟩
              have e : (contR kept n n).take (tightH cl n wd) = (keptL kept n).map some := by
                unfold contR
                rw [List.take_append_of_le_length (by rw [List.length_map, HT.out]; exact Nat.le_refl _), List.take_of_length_le (by rw [List.length_map, HT.out]; exact Nat.le_refl _)]
              rw [e] at hf
              exact hf
      · have hkn : k = n := by omega
        subst hkn
        go_wp2_with fail
        go_ret
        obtain ⟨e1, e2⟩ := HS.out q HA.out
        exact ⟨by rw [e1]; rfl, e2⟩
end Go.Proofs.Ytdhnjecbdclmaaa
