/- The iterator 'fours' of the program: the four places in ascending order, and the numbers at them. Conditions: the list is read where it lies; it has at most 1000000000 numbers. -/
import Derived.Test.YtlhbdeebkkpkmaaProg
import Derived.RangeFuncBound
import Derived.Shelf.RegionOpen
import Derived.WalkKit
import Derived.TacticsInMore
import Derived.LoopNIn
import Derived.LoopIn
import Derived.KernelRfl
import Derived.Deep.QuietTactic
import Derived.BigQuiet
import Derived.Test.YtlhbdeebkkpkmaaBase
import Derived.Test.YtlhbdeebkkpkmaaWWords
namespace Go.Proofs.Ytlhbdeebkkpkmaa
open Go.RowKit Go.Shelf Go.Proofs.YtlhbdeebkkpkmaaW.PrintWords
attribute [local go_sem] Oper.semAt_some
set_option linter.unusedVariables false

abbrev F4 := Nat × Nat × Nat × Nat
def enc4 (p : List Int) (q : F4) : Array Value :=
  #[.agg #[.int .i64 q.1, .int .i64 q.2.1, .int .i64 q.2.2.1, .int .i64 q.2.2.2],
    .agg #[.int .i64 (rd p (q.1 : Nat)), .int .i64 (rd p (q.2.1 : Nat)), .int .i64 (rd p (q.2.2.1 : Nat)), .int .i64 (rd p (q.2.2.2 : Nat))]]
def foursD (a b c : Nat) (d : Nat) : List F4 := (List.range' (c+1) (d - (c+1))).map fun x => (a, b, c, x)
def foursC (n a b : Nat) (c : Nat) : List F4 := (List.range' (b+1) (c - (b+1))).flatMap fun x => foursD a b x n
def foursB (n a : Nat) (b : Nat) : List F4 := (List.range' (a+1) (b - (a+1))).flatMap fun x => foursC n a x n
def foursA (n : Nat) (a : Nat) : List F4 := (List.range' 0 a).flatMap fun x => foursB n x n
theorem range'_snoc (s k : Nat) (h : s ≤ k) : List.range' s (k + 1 - s) = List.range' s (k - s) ++ [k] := by
  rw [show k + 1 - s = (k - s) + 1 by omega, List.range'_concat, show s + 1 * (k - s) = k by omega]
theorem foursD_start (a b c : Nat) : foursD a b c (c+1) = [] := by simp [foursD]
theorem foursC_start (n a b : Nat) : foursC n a b (b+1) = [] := by simp [foursC]
theorem foursB_start (n a : Nat) : foursB n a (a+1) = [] := by simp [foursB]
theorem foursD_step (a b c d : Nat) (h : c + 1 ≤ d) : foursD a b c (d+1) = foursD a b c d ++ [(a, b, c, d)] := by
  unfold foursD; rw [range'_snoc _ _ h]; simp
theorem foursC_step (n a b c : Nat) (h : b + 1 ≤ c) : foursC n a b (c+1) = foursC n a b c ++ foursD a b c n := by
  unfold foursC; rw [range'_snoc _ _ h]; simp
theorem foursB_step (n a b : Nat) (h : a + 1 ≤ b) : foursB n a (b+1) = foursB n a b ++ foursC n a b n := by
  unfold foursB; rw [range'_snoc _ _ h]; simp
theorem foursA_step (n a : Nat) : foursA n (a+1) = foursA n a ++ foursB n a n := by
  unfold foursA; rw [← List.range'_append (s := 0) (m := a) (n := 1)]; simp
theorem foursD_end (a b c n d : Nat) (h : n ≤ d) (hd : d ≤ n ∨ d = c + 1) : foursD a b c d = foursD a b c n := by
  rcases hd with hd | hd
  · rw [show d = n by omega]
  · unfold foursD; rw [show d - (c+1) = 0 by omega, show n - (c+1) = 0 by omega]
theorem foursC_end (n a b c : Nat) (h : n ≤ c) (hd : c ≤ n ∨ c = b + 1) : foursC n a b c = foursC n a b n := by
  rcases hd with hd | hd
  · rw [show c = n by omega]
  · unfold foursC; rw [show c - (b+1) = 0 by omega, show n - (b+1) = 0 by omega]
theorem foursB_end (n a b : Nat) (h : n ≤ b) (hd : b ≤ n ∨ b = a + 1) : foursB n a b = foursB n a n := by
  rcases hd with hd | hd
  · rw [show b = n by omega]
  · unfold foursB; rw [show b - (a+1) = 0 by omega, show n - (a+1) = 0 by omega]

theorem range'_split (s k n : Nat) (h : s ≤ k) (hn : k < n) : List.range' s (n - s) = List.range' s (k - s) ++ k :: List.range' (k+1) (n - (k+1)) := by
  rw [show n - s = (k - s) + ((n - (k+1)) + 1) by omega, ← List.range'_append (s := s) (m := k - s), Nat.one_mul, show s + (k - s) = k by omega, List.range'_succ]
theorem pre_ok (a b c d n : Nat) (ha : a < n) (hb : b < n) (hc : c < n) (hd : d < n) (h1 : a + 1 ≤ b) (h2 : b + 1 ≤ c) (h3 : c + 1 ≤ d) :
    (foursA n a ++ foursB n a b ++ foursC n a b c ++ foursD a b c d ++ [(a, b, c, d)]) <+: foursA n n := by
  have e1 : foursD a b c n = foursD a b c d ++ (a, b, c, d) :: (List.range' (d+1) (n - (d+1))).map fun x => (a, b, c, x) := by
    unfold foursD; rw [range'_split (c+1) d n h3 hd]; simp
  have e2 : foursC n a b n = foursC n a b c ++ (foursD a b c n ++ (List.range' (c+1) (n - (c+1))).flatMap fun x => foursD a b x n) := by
    unfold foursC; rw [range'_split (b+1) c n h2 hc]; simp
  have e3 : foursB n a n = foursB n a b ++ (foursC n a b n ++ (List.range' (b+1) (n - (b+1))).flatMap fun x => foursC n a x n) := by
    unfold foursB; rw [range'_split (a+1) b n h1 hb]; simp
  have e4 : foursA n n = foursA n a ++ (foursB n a n ++ (List.range' (a+1) (n - (a+1))).flatMap fun x => foursB n x n) := by
    unfold foursA; have := range'_split 0 a n (Nat.zero_le _) ha; simp only [Nat.sub_zero] at this; rw [this]; simp
  rw [e4, e3, e2, e1]
  refine ⟨(List.range' (d+1) (n - (d+1))).map (fun x => (a, b, c, x)) ++ (((List.range' (c+1) (n - (c+1))).flatMap fun x => foursD a b x n) ++ (((List.range' (b+1) (n - (b+1))).flatMap fun x => foursC n a x n) ++ (List.range' (a+1) (n - (a+1))).flatMap fun x => foursB n x n)), ?_⟩
  simp

set_option maxRecDepth 100000 in
set_option maxHeartbeats 4000000 in
theorem fours1_iter (B cap : Nat) (A : Option Addr) (p : List Int) (hp : p.length ≤ 1000000000) (M : Nat → Prop) (m : Nat) (hMm : ∀ k, M k → m ≤ k) (hMB : ¬ M B) (v w : World) (hvm : v.heap.size = m) (hvw : Below v.heap.size v w) (hBc : w.cell? ⟨B, 0, none⟩ = some (.slice A p.length cap)) (hr : Kd.C (Kd.int .i64) v A p.length p) :
    IterRO Try.prog 53 #[.pointer (some ⟨B, 0, none⟩)] (enc4 p) (foursA p.length p.length) M w := by
  intro l J Jx W hbW hJ hY h0
  have hBw : B < w.heap.size := World.block_lt_of_cell? w _ hBc
  have hBW := (hbW.cell (p := ⟨B, 0, none⟩) hBw).trans hBc
  have HR := Aside0.mk hr
  have HB := Aside0.mk hbW
  have HV := Aside0.mk hvw
  clear hBc hr hbW hvw
  refine callsIn_of_wp Try.func53 rfl trivial ?_ rfl
  simp only [Try.ntmps53, List.size_toArray, List.length_cons, List.length_nil, Nat.reduceAdd, Nat.reduceSub, Array.replicate_succ, Array.replicate_zero, List.push_toArray, List.append_toArray, List.nil_append, List.cons_append]
  gi_wp2
  gi_loopw [9] (fun i wr => ∃ a : Nat, i = .int .i64 a ∧ a ≤ p.length ∧ J (foursA p.length a) wr ∧ KeepM w.heap.size M W wr) (fun i _ => p.length - (intOf i).toNat)
  case atStart => exact ⟨0, rfl, Nat.zero_le _, h0, KeepM.refl _ _ _⟩
  case round =>
    obtain ⟨a, rfl, ha, hJa, hBa⟩ := hrel
    obtain ⟨wa, rfl⟩ : ∃ wo : World, wo = wr := ⟨_, rfl⟩
    have hBca := (hBa.cell (a := ⟨B, 0, none⟩) hBw hMB).trans hBW
    by_cases hlt : a < p.length
    · gi_wp2
      gi_loopw [4] (fun i wr => ∃ b : Nat, i = .int .i64 b ∧ a + 1 ≤ b ∧ (b ≤ p.length ∨ b = a + 1) ∧ J (foursA p.length a ++ foursB p.length a b) wr ∧ KeepM w.heap.size M W wr) (fun i _ => p.length - (intOf i).toNat)
      case atStart => exact ⟨a + 1, by go_num, by omega, by omega, by rw [foursB_start]; simpa using hJa, hBa⟩
      case round =>
        obtain ⟨b2, rfl, hb1, hb2, hJb, hBb⟩ := hrel
        obtain ⟨wb, rfl⟩ : ∃ wo : World, wo = wr := ⟨_, rfl⟩
        have hBcb := (hBb.cell (a := ⟨B, 0, none⟩) hBw hMB).trans hBW
        by_cases hltb : b2 < p.length
        · gi_wp2
          gi_loopw [5] (fun i wr => ∃ c : Nat, i = .int .i64 c ∧ b2 + 1 ≤ c ∧ (c ≤ p.length ∨ c = b2 + 1) ∧ J (foursA p.length a ++ foursB p.length a b2 ++ foursC p.length a b2 c) wr ∧ KeepM w.heap.size M W wr) (fun i _ => p.length - (intOf i).toNat)
          case atStart => exact ⟨b2 + 1, by go_num, by omega, by omega, by rw [foursC_start]; simpa using hJb, hBb⟩
          case round =>
            obtain ⟨c, rfl, hc1, hc2, hJc, hBc2⟩ := hrel
            obtain ⟨wc, rfl⟩ : ∃ wo : World, wo = wr := ⟨_, rfl⟩
            have hBcc := (hBc2.cell (a := ⟨B, 0, none⟩) hBw hMB).trans hBW
            by_cases hltc : c < p.length
            · gi_wp2
              gi_loopw [6] (fun i wr => ∃ d : Nat, i = .int .i64 d ∧ c + 1 ≤ d ∧ (d ≤ p.length ∨ d = c + 1) ∧ J (foursA p.length a ++ foursB p.length a b2 ++ foursC p.length a b2 c ++ foursD a b2 c d) wr ∧ KeepM w.heap.size M W wr) (fun i _ => p.length - (intOf i).toNat)
              case atStart => exact ⟨c + 1, by go_num, by omega, by omega, by rw [foursD_start]; simpa using hJc, hBc2⟩
              case round =>
                obtain ⟨d, rfl, hd1, hd2, hJd, hBd⟩ := hrel
                obtain ⟨wd, rfl⟩ : ∃ wo : World, wo = wr := ⟨_, rfl⟩
                have hBcd := (hBd.cell (a := ⟨B, 0, none⟩) hBw hMB).trans hBW
                by_cases hltd : d < p.length
                · have hrd := Kd.C_below HR.out (HV.out.trans ((HB.out.mono HV.out.size).trans (hBd.below (hvm ▸ hMm) HV.out.size)))
                  obtain ⟨ad, rfl, ga⟩ := Kd.at_int hrd (a : Int) (by omega) (by omega)
                  obtain ⟨ad1, e1, gb⟩ := Kd.at_int hrd (b2 : Int) (by omega) (by omega)
                  obtain rfl : ad = ad1 := by injection e1
                  obtain ⟨ad2, e2, gc⟩ := Kd.at_int hrd (c : Int) (by omega) (by omega)
                  obtain rfl : ad = ad2 := by injection e2
                  obtain ⟨ad3, e3, gd⟩ := Kd.at_int hrd (d : Int) (by omega) (by omega)
                  obtain rfl : ad = ad3 := by injection e3
                  clear e1 e2 e3 hrd
                  simp only [Int.toNat_natCast] at ga gb gc gd
                  gi_wp2
                  refine wpIn_region_still_tail Wide.wide 23 (by kernel_rfl) (by kernel_rfl) (by kernel_rfl) ?_
                  simp only [List.take_succ_cons, List.take_zero, List.drop_succ_cons, List.drop_zero]
                  repeat still_step
                  try refine wpStill_nil ?_
                  change wpListIn _ _ _ _ _ _ _ wd.drew
                  obtain ⟨fn, tmps, assign, body, hy, hR⟩ := hY _ (a, b2, c, d) wd.drew (hJ _ _ _ hJd ⟨rfl, rfl, rfl, Nat.le_refl _, fun _ _ _ => rfl⟩) (pre_ok a b2 c d p.length hlt hltb hltc hltd hb1 hc1 hd1)
                  dsimp only [enc4] at hy
                  gi_wp2
                  refine ⟨rfl, hR.mono ?_⟩
                  rintro e W' (⟨rfl, hJ', hk⟩ | ⟨rfl, hJx'⟩)
                  · gi_wp2
                    go_roundw
                    case rel => exact ⟨d + 1, by go_num, by omega, by omega, by rw [foursD_step _ _ _ _ hd1]; simpa using hJ', (hBd.trans (KeepM.of_below ((Below.refl _ _).drew))).trans hk⟩
                    case measure => simp [intOf]; omega
                  · gi_wp2
                    refine bodyPost_ret (results_none rfl _ _ _) rfl ?_
                    refine ⟨⟨_, rfl⟩, .inr ⟨_, ?_, hJx'⟩⟩
                    exact pre_ok a b2 c d p.length hlt hltb hltc hltd hb1 hc1 hd1
                · gi_wp2
                  go_roundw
                  case rel => exact ⟨c + 1, by go_num, by omega, by omega, by rw [foursC_step _ _ _ _ hc1, ← foursD_end a b2 c p.length d (by omega) hd2, ← List.append_assoc]; exact hJd, hBd⟩
                  case measure => simp [intOf]; omega
            · gi_wp2
              go_roundw
              case rel => exact ⟨b2 + 1, by go_num, by omega, by omega, by rw [foursB_step _ _ _ hb1, ← foursC_end p.length a b2 c (by omega) hc2, ← List.append_assoc]; exact hJc, hBc2⟩
              case measure => simp [intOf]; omega
        · gi_wp2
          go_roundw
          case rel => exact ⟨a + 1, by go_num, by omega, by rw [foursA_step, ← foursB_end p.length a b2 (by omega) hb2]; exact hJb, hBb⟩
          case measure => simp [intOf]; omega
    · gi_wp2
      go_end0
      obtain rfl : a = p.length := by omega
      exact ⟨⟨_, rfl⟩, .inl hJa⟩
end Go.Proofs.Ytlhbdeebkkpkmaa
