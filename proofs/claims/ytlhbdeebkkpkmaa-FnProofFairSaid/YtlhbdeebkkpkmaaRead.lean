/- The reader of proofs' places: the reference's l12Read, by a walk of its own. Conditions: the word has at most 100 bytes, at most 100 digits are asked for. -/
import Derived.Test.YtlhbdeebkkpkmaaLoose
namespace Go.Proofs.Ytlhbdeebkkpkmaa
open Go.RowKit Go.Shelf Go.Proofs.YtlhbdeebkkpkmaaW.PrintWords Go.Proofs.YtlhbdeebkkpkmaaW.PrintMore
attribute [local go_sem] max2_int min2_int max_two min_two max_three min_three max_four min_four
set_option linter.unusedVariables false

theorem info_int : (Try.prog.info? 3).map (fun i => (i.zero, i.size, i.bytes)) = some (some (.int .i64 0), 1, 8) := by kernel_rfl

def digB (s : ByteArray) (o i : Nat) : Bool := (bt s ((o : Int) + 2 * i) == 32) && (decide (48 ≤ bt s ((o : Int) + 2 * i + 1)) && decide (bt s ((o : Int) + 2 * i + 1) ≤ 57))
def digL (s : ByteArray) (o n : Nat) : List Int := (List.range n).map fun (i : Nat) => bt s ((o : Int) + 2 * i + 1) - 48
def readOK (s word : ByteArray) (many : Nat) : Bool := decide (s.size = word.size + 2 * many) && ((s.extract 0 word.size).toList == word.toList) && (List.range many).all (digB s word.size)
theorem digL_snoc (s : ByteArray) (o n : Nat) : digL s o (n + 1) = digL s o n ++ [bt s ((o : Int) + 2 * n + 1) - 48] := by simp [digL, List.range_succ]
theorem digL_len (s : ByteArray) (o n : Nat) : (digL s o n).length = n := by simp [digL]
theorem all_succ (f : Nat → Bool) (n : Nat) : (List.range (n + 1)).all f = ((List.range n).all f && f n) := by simp [List.range_succ]
theorem all_cut {f : Nat → Bool} {n k : Nat} (hk : k < n) (h : f k = false) : (List.range n).all f = false := by
  rw [List.all_eq_false]; exact ⟨k, List.mem_range.2 hk, by simp [h]⟩

theorem ret_two {a b c d : Value} (h1 : a = c) (h2 : b = d) : Ending.returned (.tuple #[a, b]) = .returned (.tuple #[c, d]) := by rw [h1, h2]
/-- What reading hands back: no list, or the digits. -/
def ReadPost (w : World) (s word : ByteArray) (many : Nat) (e : Ending) (w' : World) : Prop :=
  ∃ v, e = .returned (.tuple #[v, .bool (readOK s word many)]) ∧ Below w.heap.size w w' ∧ (readOK s word many = true → Kd.R (Kd.int .i64) 3 w' w.heap.size (fun _ => True) v (digL s word.size many))

/-- An empty slice in new memory. -/
theorem R_lit0 {α : Type} (d : Kd α) (w : World) (e : TypeId) : d.R e (w.alloc (.cells #[] e)) w.heap.size (fun _ => True) (.slice (some ⟨w.heap.size, 0, none⟩) 0 0) [] := by
  refine ⟨fun _ _ => trivial, [], ⟨by simp, .inr ⟨w.heap.size, 0, #[], rfl, Nat.le_refl _, World.alloc_heap_new _ _, Nat.le_refl _, by unfold maxLen; omega, by simp, by simp⟩⟩, Reps.none _ _⟩
theorem lit_below (w : World) (t : TypeId) : Below w.heap.size w (w.alloc (.cells #[] t)) := (Below.refl _ _).alloc (Nat.le_refl _) _

set_option maxRecDepth 100000 in
set_option maxHeartbeats 4000000 in
theorem l12Read_any (s word : ByteArray) (many : Nat) (hw : word.size ≤ 100) (hm : many ≤ 100) (hs : s.size ≤ 1000000000) (w : World) :
    Calls Try.prog 31 #[.string s, .string word, .int .i64 many] w (ReadPost w s word many) := by
  by_cases h1 : s.size = word.size + 2 * many
  case neg =>
    have hf : readOK s word many = false := by simp [readOK, h1]
    have c1 : (((s.size : Int)) != (word.size : Int) + 2 * (many : Int)) = true := by rw [bne_iff_ne]; omega
    have HF := Aside0.mk hf
    clear hf h1
    go_enter Try.func31, Try.ntmps31
    go_wp2
    go_ret2
    exact ⟨_, by rw [HF.out]; exact ret_two rfl rfl, by repeat (first | exact Below.refl _ _ | apply pw_below_drewN | apply below_alloc), fun h => by rw [HF.out] at h; cases h⟩
  case pos =>
    have c1 : (((s.size : Int)) != (word.size : Int) + 2 * (many : Int)) = false := by rw [bne_eq_false_iff_eq]; omega
    cases h2 : ((s.extract 0 word.size).toList == word.toList)
    case false =>
      have hf : readOK s word many = false := by simp [readOK, h2]
      have HF := Aside0.mk hf
      have H1 := Aside0.mk h1
      clear hf
      have hle : word.size ≤ s.size := by omega
      clear h1
      go_enter Try.func31, Try.ntmps31
      go_wp2
      go_ret2
      exact ⟨_, by rw [HF.out]; exact ret_two rfl rfl, by repeat (first | exact Below.refl _ _ | apply pw_below_drewN | apply below_alloc), fun h => by rw [HF.out] at h; cases h⟩
    case true =>
      have hf : readOK s word many = (List.range many).all (digB s word.size) := by simp [readOK, h1, h2]
      have HF := Aside0.mk hf
      have H1 := Aside0.mk h1
      clear hf
      have hle : word.size ≤ s.size := by omega
      have hle2 : word.size + 2 * many ≤ s.size := by omega
      clear h1
      go_enter Try.func31, Try.ntmps31
      go_wp2
      go_loopw [8, 9] (fun v i wr => ∃ k : Nat, i = .int .i64 k ∧ k ≤ many ∧ Aside0 ((List.range k).all (digB s word.size) = true) ∧ Aside0 (Kd.R (Kd.int .i64) 3 wr w.heap.size (fun _ => True) v (digL s word.size k)) ∧ Aside0 (Below w.heap.size w wr)) (fun _ i _ => many - (intOf i).toNat)
      case atStart => exact ⟨0, rfl, Nat.zero_le _, ⟨rfl⟩, ⟨R_lit0 _ w _⟩, ⟨lit_below _ _⟩⟩
      case round =>
        obtain ⟨k, rfl, hk, hall, hown, hbel⟩ := hrel
        obtain ⟨wk, rfl⟩ : ∃ wo : World, wo = wr := ⟨_, rfl⟩
        by_cases hlt : k < many
        · have hx0 := bt_at s ((word.size : Int) + 2 * k)
          have hx1 := bt_at s ((word.size : Int) + 2 * k + 1)
          by_cases c32 : bt s ((word.size : Int) + 2 * k) = 32
          case neg =>
            have HZ := Aside0.mk (all_cut (f := digB s word.size) hlt (by simp [digB, c32]))
            have b32 : (bt s ((word.size : Int) + 2 * k) != 32) = true := by simpa using c32
            clear c32
            go_wp2
            go_ret2
            exact ⟨_, by rw [HF.out, HZ.out]; exact ret_two rfl rfl, by repeat (first | exact hbel.out | apply pw_below_drewN | apply below_alloc), fun h => by rw [HF.out, HZ.out] at h; cases h⟩
          case pos =>
          by_cases c48 : bt s ((word.size : Int) + 2 * k + 1) < 48
          case pos =>
            have HZ := Aside0.mk (all_cut (f := digB s word.size) hlt (by simp [digB]; omega))
            have b32 : (bt s ((word.size : Int) + 2 * k) != 32) = false := by simpa using c32
            clear c32
            go_wp2
            go_ret2
            exact ⟨_, by rw [HF.out, HZ.out]; exact ret_two rfl rfl, by repeat (first | exact hbel.out | apply pw_below_drewN | apply below_alloc), fun h => by rw [HF.out, HZ.out] at h; cases h⟩
          case neg =>
          by_cases c57 : 57 < bt s ((word.size : Int) + 2 * k + 1)
          case pos =>
            have HZ := Aside0.mk (all_cut (f := digB s word.size) hlt (by simp [digB]; omega))
            have b32 : (bt s ((word.size : Int) + 2 * k) != 32) = false := by simpa using c32
            have c48' : 48 ≤ bt s ((word.size : Int) + 2 * k + 1) := by omega
            clear c32 c48
            go_wp2
            go_ret2
            exact ⟨_, by rw [HF.out, HZ.out]; exact ret_two rfl rfl, by repeat (first | exact hbel.out | apply pw_below_drewN | apply below_alloc), fun h => by rw [HF.out, HZ.out] at h; cases h⟩
          case neg =>
            have HZ := Aside0.mk (show digB s word.size k = true by unfold digB; rw [c32]; simp; omega)
            have b32 : (bt s ((word.size : Int) + 2 * k) != 32) = false := by simpa using c32
            have c48' : 48 ≤ bt s ((word.size : Int) + 2 * k + 1) := by omega
            have c57' : bt s ((word.size : Int) + 2 * k + 1) ≤ 57 := by omega
            have hmod : (bt s ((word.size : Int) + 2 * k + 1) - 48) % 256 = bt s ((word.size : Int) + 2 * k + 1) - 48 := by omega
            clear c32 c48 c57
            go_wp2_with (at_builtin; refine Kd.R_append (Kd.int .i64) (w0 := w) w.heap.size rfl (.tmp 59) (.tmp 63) 22 3 (.int .i64 0) 8 rfl Try.underlying22 info_int rfl (by decide) (by omega) _ (digL s word.size k) (bt s ((word.size : Int) + 2 * k + 1) - 48) [.int .i64 (bt s ((word.size : Int) + 2 * k + 1) - 48)] (fun _ => True) (fun _ => False) rfl rfl rfl (fun _ hk => hk.elim) (fun _ _ => trivial) hown.out hbel.out (below_size hbel.out) (by rw [digL_len]; omega) ?_; intro v1 w1 ho hb hg hat; have HO := Aside0.mk ho; have HB := Aside0.mk hb; clear ho hb hg hat)
            go_roundw
            case rel => exact ⟨k + 1, by go_num, by omega, ⟨by rw [all_succ, hall.out, HZ.out]; rfl⟩, ⟨by rw [digL_snoc]; exact HO.out⟩, HB⟩
            case measure => simp [intOf]; omega
        · go_wp2
          go_ret2
          obtain rfl : k = many := by omega
          exact ⟨_, by rw [HF.out, hall.out]; exact ret_two rfl rfl, hbel.out, fun _ => hown.out⟩
end Go.Proofs.Ytlhbdeebkkpkmaa
