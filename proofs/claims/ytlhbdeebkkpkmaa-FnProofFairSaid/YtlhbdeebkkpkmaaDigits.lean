/- The digits behind a word, the program's (a text's builder) and the reference's (joined texts): contracts. Conditions: single digits, at most 1000 of them. -/
import Derived.Test.YtlhbdeebkkpkmaaBuilder
namespace Go.Proofs.Ytlhbdeebkkpkmaa
open Go.RowKit Go.Shelf Go.Proofs.YtlhbdeebkkpkmaaW.PrintWords Go.Proofs.YtlhbdeebkkpkmaaW.PrintMore
set_option linter.unusedVariables false

def dbyte (n : Int) : UInt8 := UInt8.ofNat (48 + n).toNat
def digBytes (l : List Int) : List UInt8 := l.flatMap fun n => [32, dbyte n]
theorem dbyte_val {n : Int} (h : 0 ≤ n ∧ n ≤ 9) : ((dbyte n).toNat : Int) = 48 + n := by
  unfold dbyte
  rw [UInt8.toNat_ofNat']
  omega
theorem byteCells_digit {n : Int} (h : 0 ≤ n ∧ n ≤ 9) (l : List UInt8) : Lib.byteCells (l ++ [32, dbyte n]) = Lib.byteCells l ++ [.int .u8 32] ++ [.int .u8 (48 + n)] := by
  unfold Lib.byteCells
  rw [List.map_append, List.append_assoc]
  congr 1
  simp only [List.map_cons, List.map_nil, List.cons_append, List.nil_append]
  rw [dbyte_val h]
  rfl
theorem digBytes_take {l : List Int} {k : Nat} (hk : k < l.length) : digBytes (l.take (k + 1)) = digBytes (l.take k) ++ [32, dbyte (rd l k)] := by
  unfold digBytes
  rw [List.take_add_one, List.flatMap_append, List.getElem?_eq_getElem hk]
  unfold rd
  rw [Int.toNat_natCast, List.getD_eq_getElem?_getD, List.getElem?_eq_getElem hk]
  rfl
theorem digBytes_len (l : List Int) : (digBytes l).length = 2 * l.length := by
  unfold digBytes
  induction l with
  | nil => rfl
  | cons x t ih => rw [List.flatMap_cons, List.length_append, ih]; simp; omega

set_option maxRecDepth 100000 in
set_option maxHeartbeats 4000000 in
theorem digits_any (A : Option Addr) (c : Nat) (l : List Int) (hl : l.length ≤ 1000) (hd : ∀ k : Nat, k < l.length → 0 ≤ rd l k ∧ rd l k ≤ 9) (w : World) (hr : Kd.C (Kd.int .i64) w A l.length l) (hc : l.length ≤ c) :
    Calls Try.prog 39 #[.slice A l.length c] w fun e w' => e = .returned (.string ⟨(digBytes l).toArray⟩) ∧ Below w.heap.size w w' := by
  have HR := Aside0.mk hr
  have HD := Aside0.mk hd
  clear hr hd
  go_enter Try.func39, Try.ntmps39
  go_wp2
  go_loopw [8] (fun i wr => ∃ k : Nat, i = .int .i64 k ∧ k ≤ l.length ∧ Aside0 (IsB w.heap.size w.heap.size (Lib.byteCells (digBytes (l.take k))) wr) ∧ Aside0 (Below w.heap.size w wr)) (fun i _ => l.length - (intOf i).toNat)
  case atStart => exact ⟨0, rfl, Nat.zero_le _, ⟨Lib.fresh_isBuilder 63 5 w⟩, ⟨(Below.refl _ _).alloc (Nat.le_refl _) _⟩⟩
  case round =>
    obtain ⟨k, rfl, hk, hB, hbel⟩ := hrel
    by_cases hlt : k < l.length
    · obtain ⟨ad, hA, f0⟩ := Kd.at_int (Kd.C_below HR.out hbel.out) (k : Int) (by omega) (by omega)
      have HV := HD.out k hlt
      obtain ⟨n, hn⟩ : ∃ n, rd l (k : Int) = n := ⟨_, rfl⟩
      rw [hn] at HV f0
      rw [Int.toNat_natCast] at f0
      have h0 := HV.1
      have h9 := HV.2
      have HN := Aside0.mk hn
      have hA' := Aside0.mk hA
      clear hn HV
      subst hA
      have hlen : (Lib.byteCells (digBytes (l.take k))).length + 2 ≤ 140737488355328 := by
        unfold Lib.byteCells; rw [List.length_map, digBytes_len, List.length_take]; omega
      have HLN := Aside0.mk hlen
      have HS := hbel.out.size
      clear hlen
      go_wp2_with (go_at_call 54; refine (writeByte_any w.heap.size w.heap.size _ _ _ hB.out (by have := HLN.out; omega) (by omega)).mono ?_; rintro e w2 ⟨rfl, hB2, hb2⟩)
      go_wp2_with (go_at_call 54; refine (writeByte_any w.heap.size w.heap.size _ _ _ hB2 (by have := HLN.out; simp; omega) (by have := hb2.size; omega)).mono ?_; rintro e w3 ⟨rfl, hB3, hb3⟩)
      refine ⟨⟨k + 1, by push_cast; rfl, by omega, ⟨?_⟩, ⟨(hbel.out.trans hb2).trans hb3⟩⟩, by simp [intOf]; omega⟩
      rw [digBytes_take hlt, HN.out, byteCells_digit ⟨h0, h9⟩]
      exact hB3
    · have hke : l.take k = l := List.take_of_length_le (by omega)
      have HS := hbel.out.size
      have HB2 := hB.out
      rw [hke] at HB2
      have HB3 := Aside0.mk HB2
      clear HB2 hke hB
      go_wp2_with (go_at_call 55; refine (Try.Builder_String_any w.heap.size w.heap.size _ _ HB3.out (by omega)).mono ?_; rintro e w2 ⟨rfl, hb2⟩)
      go_ret
      exact ⟨rfl, hbel.out.trans hb2⟩

theorem strOf_one (n : Int) : strOfNums [n] = ⟨#[UInt8.ofNat n.toNat]⟩ := rfl
theorem dec_any (n : Int) (h : 0 ≤ n ∧ n ≤ 9) (w : World) :
    Calls Try.prog 52 #[.int .i64 n] w fun e w' => e = .returned (.string ⟨#[dbyte n]⟩) ∧ Below w.heap.size w w' := by
  refine L1.spec_l6Dec.calls 1 n _ w ?_
  unfold L1.spec_l6Dec.f
  rw [if_neg (by omega), if_neg (by omega), if_pos (by omega), strOf_one]
  congr 5
  unfold wrap64
  omega

def wordsB (word : ByteArray) (l : List Int) : ByteArray := word ++ ⟨(digBytes l).toArray⟩
theorem wordsB_size (word : ByteArray) (l : List Int) : (wordsB word l).size = word.size + 2 * l.length := by
  unfold wordsB
  rw [ByteArray.size_append]
  show word.size + (digBytes l).toArray.size = _
  rw [List.size_toArray, digBytes_len]
theorem wordsB_take {word : ByteArray} {l : List Int} {k : Nat} (hk : k < l.length) : wordsB word (l.take k) ++ ⟨#[32]⟩ ++ ⟨#[dbyte (rd l k)]⟩ = wordsB word (l.take (k + 1)) := by
  unfold wordsB
  rw [digBytes_take hk]
  apply ByteArray.ext
  simp only [ByteArray.data_append]
  simp

set_option maxRecDepth 100000 in
set_option maxHeartbeats 4000000 in
theorem words_any (A : Option Addr) (c : Nat) (word : ByteArray) (l : List Int) (hw : word.size ≤ 1000) (hl : l.length ≤ 1000) (hd : ∀ k : Nat, k < l.length → 0 ≤ rd l k ∧ rd l k ≤ 9) (w : World) (hr : Kd.C (Kd.int .i64) w A l.length l) (hc : l.length ≤ c) :
    Calls Try.prog 37 #[.string word, .slice A l.length c] w fun e w' => e = .returned (.string (wordsB word l)) ∧ Below w.heap.size w w' := by
  have HR := Aside0.mk hr
  have HD := Aside0.mk hd
  clear hr hd
  go_enter Try.func37, Try.ntmps37
  go_wp2
  go_loopw [0, 5] (fun s i wr => ∃ k : Nat, i = .int .i64 k ∧ s = .string (wordsB word (l.take k)) ∧ k ≤ l.length ∧ Aside0 (Below w.heap.size w wr)) (fun _ i _ => l.length - (intOf i).toNat)
  case atStart => exact ⟨0, rfl, by rw [show wordsB word (l.take 0) = word by unfold wordsB; apply ByteArray.ext; simp [digBytes]], Nat.zero_le _, ⟨Below.refl _ _⟩⟩
  case round =>
    obtain ⟨k, rfl, rfl, hk, hbel⟩ := hrel
    by_cases hlt : k < l.length
    · obtain ⟨ad, hA, f0⟩ := Kd.at_int (Kd.C_below HR.out hbel.out) (k : Int) (by omega) (by omega)
      have HV := HD.out k hlt
      obtain ⟨n, hn⟩ : ∃ n, rd l (k : Int) = n := ⟨_, rfl⟩
      rw [hn] at HV f0
      rw [Int.toNat_natCast] at f0
      obtain ⟨acc, ha⟩ : ∃ acc, wordsB word (l.take k) = acc := ⟨_, rfl⟩
      have hsz : acc.size ≤ 3000 := by rw [← ha, wordsB_size, List.length_take]; omega
      have HN := Aside0.mk hn
      have HV' := Aside0.mk HV
      have HA := Aside0.mk ha
      clear hn HV
      subst hA
      rw [ha]
      clear ha
      go_wp2_with (go_at_call 52; refine (dec_any n HV'.out _).mono ?_; rintro e w2 ⟨rfl, hb2⟩)
      refine ⟨⟨k + 1, by push_cast; rfl, ?_, by omega, ⟨below_step hbel.out hb2⟩⟩, by simp [intOf]; omega⟩
      rw [← HA.out, ← HN.out, wordsB_take hlt]
    · have hke : l.take k = l := List.take_of_length_le (by omega)
      rw [hke]
      clear hke
      go_wp2
      go_ret
      exact ⟨rfl, hbel.out⟩
end Go.Proofs.Ytlhbdeebkkpkmaa
