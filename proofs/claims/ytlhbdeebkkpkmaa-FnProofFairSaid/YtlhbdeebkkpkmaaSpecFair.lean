/- The reference's ProofFair: the first proof that a list of numbers is not fair. Conditions: the list has at most 1000000000 numbers. -/
import Derived.Test.YtlhbdeebkkpkmaaFairP
import Derived.Test.YtlhbdeebkkpkmaaSpecLoose
namespace Go.Proofs.Ytlhbdeebkkpkmaa
open Go.RowKit Go.Shelf Go.Proofs.YtlhbdeebkkpkmaaW.PrintWords Go.Proofs.YtlhbdeebkkpkmaaW.PrintMore
set_option linter.unusedVariables false

theorem cells3_C {W : World} {b : Nat} {a0 a1 a2 : Int} {t : TypeId} (h : W.heap[b]? = some (.cells #[.int .i64 a0, .int .i64 a1, .int .i64 a2] t (0, 0))) : Kd.C (Kd.int .i64) W (some ⟨b, 0, none⟩) 3 [a0, a1, a2] := by
  refine Kd.C_of_reads (d := 0) (enc := Value.int .i64) (h1 := fun _ => rfl) ⟨rfl, by omega, fun _ => ⟨⟨b, 0, none⟩, rfl, fun j hj => ?_⟩⟩
  have h4 : j < 3 := hj
  have := blk_cell h j
  match j, h4 with
  | 0, _ => simpa [Addr.add] using this
  | 1, _ => simpa [Addr.add] using this
  | 2, _ => simpa [Addr.add] using this
theorem rd_t3 {a b c : Int} (ha : 0 ≤ a ∧ a ≤ 9) (hb : 0 ≤ b ∧ b ≤ 9) (hc : 0 ≤ c ∧ c ≤ 9) : ∀ k : Nat, k < [a, b, c].length → 0 ≤ rd [a, b, c] k ∧ rd [a, b, c] k ≤ 9 := by
  intro k hk
  have hk4 : k < 3 := hk
  unfold rd
  rw [Int.toNat_natCast]
  match k, hk4 with
  | 0, _ => simpa using ha
  | 1, _ => simpa using hb
  | 2, _ => simpa using hc
theorem trip_ok (j i k n : Nat) (hj : j < n) (hi : i < j) (hk : k < n) (h1 : 1 ≤ j) (h2 : j + 2 ≤ k) : (tripA n j ++ tripB n j i ++ tripC j i k) ++ [(j, i, k)] <+: tripA n n := by
  have e1 : tripC j i n = tripC j i k ++ (j, i, k) :: (List.range' (k+1) (n - (k+1))).map fun x => (j, i, x) := by
    unfold tripC
    rw [range'_split (j + 2) k n h2 hk, List.map_append, List.map_cons]
  have e2 : tripB n j j = tripB n j i ++ tripC j i n ++ (List.range' (i+1) (j - (i+1))).flatMap fun x => tripC j x n := by
    unfold tripB
    have := range'_split 0 i j (by omega) hi
    rw [Nat.sub_zero, Nat.sub_zero] at this
    rw [this, List.flatMap_append, List.flatMap_cons, List.append_assoc]
  have e3 : tripA n n = tripA n j ++ tripB n j j ++ (List.range' (j+1) (n - (j+1))).flatMap fun x => tripB n x x := by
    unfold tripA
    rw [range'_split 1 j n h1 hj, List.flatMap_append, List.flatMap_cons, List.append_assoc]
  rw [e3, e2, e1]
  simp only [List.append_assoc, List.cons_append, List.nil_append]
  refine (List.prefix_append_right_inj _).2 ((List.prefix_append_right_inj _).2 ((List.prefix_append_right_inj _).2 ?_))
  exact List.cons_prefix_cons.2 ⟨rfl, List.nil_prefix⟩

set_option maxRecDepth 100000 in
set_option maxHeartbeats 4000000 in
theorem specFair_any (A : Option Addr) (cp : Nat) (p : List Int) (hp : p.length ≤ 1000000000) (w : World) (hr : Kd.C (Kd.int .i64) w A p.length p) (hc : p.length ≤ cp) :
    Calls Try.prog 23 #[.slice A p.length cp] w fun e w' => e = .returned (.tuple #[.string (fairP p).1, .bool (fairP p).2]) ∧ Below w.heap.size w w' := by
  have HR := Aside0.mk hr
  have HPI := Aside0.mk (specPermIn_any A cp p hp w hr hc)
  clear hr
  cases hpm : permInB p with
  | false =>
    have hl : fairP p = (ByteArray.empty, false) := by unfold fairP; rw [hpm]; rfl
    have HL := Aside0.mk hl
    rw [hpm] at HPI
    clear hpm hl
    go_enter Try.func23, Try.ntmps23
    go_wp2_with (go_at_call 29; refine HPI.out.mono ?_; rintro e w1 ⟨rfl, ⟨n1, rfl⟩⟩)
    go_ret2
    exact ⟨by rw [HL.out]; rfl, pw_below_drewN (Below.refl _ _) _⟩
  | true =>
    have HM := Aside0.mk hpm
    have hl7 := permIn_len hpm
    have HL7 := Aside0.mk hl7
    rw [hpm] at HPI
    clear hpm hl7
    go_enter Try.func23, Try.ntmps23
    go_wp2_with (go_at_call 29; refine HPI.out.mono ?_; rintro e w1 ⟨rfl, ⟨n1, rfl⟩⟩)
    go_loopw [4] (fun i wr => ∃ j : Nat, i = .int .i64 j ∧ 1 ≤ j ∧ (j ≤ p.length ∨ j = 1) ∧ Aside0 (∀ q ∈ tripA p.length j, fairOf p q = false) ∧ Aside0 (Below w.heap.size w wr)) (fun i _ => p.length - (intOf i).toNat)
    case atStart => exact ⟨1, rfl, Nat.le_refl _, .inr rfl, ⟨fun q hq => by rw [tripA_start] at hq; cases hq⟩, ⟨pw_below_drewN (Below.refl _ _) _⟩⟩
    case round =>
      obtain ⟨j, rfl, hj1, hj2, hJa, hBa⟩ := hrel
      by_cases hlt : j < p.length
      · go_wp2
        go_loopw [5] (fun i wr => ∃ b : Nat, i = .int .i64 b ∧ b ≤ j ∧ Aside0 (∀ q ∈ tripA p.length j ++ tripB p.length j b, fairOf p q = false) ∧ Aside0 (Below w.heap.size w wr)) (fun i _ => j - (intOf i).toNat)
        case atStart => exact ⟨0, rfl, Nat.zero_le _, ⟨by rw [tripB_start]; simpa using hJa.out⟩, hBa⟩
        case round =>
          obtain ⟨b, rfl, hb1, hJb, hBb⟩ := hrel
          by_cases hltb : b < j
          · go_wp2
            go_loopw [6] (fun i wr => ∃ c : Nat, i = .int .i64 c ∧ j + 2 ≤ c ∧ (c ≤ p.length ∨ c = j + 2) ∧ Aside0 (∀ q ∈ tripA p.length j ++ tripB p.length j b ++ tripC j b c, fairOf p q = false) ∧ Aside0 (Below w.heap.size w wr)) (fun i _ => p.length - (intOf i).toNat)
            case atStart => exact ⟨j + 2, by go_num, by omega, by omega, ⟨by rw [tripC_start]; simpa using hJb.out⟩, hBb⟩
            case round =>
              obtain ⟨c, rfl, hc1, hc2, hJc, hBc⟩ := hrel
              by_cases hltc : c < p.length
              · have hbr : breaksB p b j c = fairOf p (j, b, c) := by unfold breaksB fairOf; rw [decide_eq_true (by omega), Bool.true_and]
                have HF := Aside0.mk (breaks_any A cp p b j c (by omega) (by omega) (by omega) hp wr (Kd.C_below HR.out hBc.out) hc)
                rw [hbr] at HF
                have HPO := Aside0.mk (trip_ok j b c p.length hlt hltb hltc hj1 hc1)
                clear hbr
                cases ht : fairOf p (j, b, c) with
                | false =>
                  rw [ht] at HF
                  have HN := Aside0.mk (none_snoc hJc.out ht)
                  clear ht
                  go_wp2_with (go_at_call 35; refine HF.out.mono ?_; rintro e w2 ⟨rfl, n2, rfl⟩)
                  go_roundw
                  case rel => exact ⟨c + 1, by go_num, by omega, by omega, ⟨by rw [tripC_step _ _ _ hc1, ← List.append_assoc]; exact HN.out⟩, ⟨pw_below_drewN hBc.out _⟩⟩
                  case measure => simp [intOf]; omega
                | true =>
                  rw [ht] at HF
                  have hl : fairP p = (wordsB wBreak (t3text (j, b, c)), true) := by
                    unfold fairP fairFind; rw [HM.out, if_pos rfl, find_first HPO.out hJc.out ht]
                  have HL := Aside0.mk hl
                  have h7 := HL7.out
                  have HRD := Aside0.mk (rd_t3 (a := (b : Int)) (b := (j : Int)) (c := (c : Int)) (by omega) (by omega) (by omega))
                  clear ht hl h7
                  go_wp2_with (go_at_call 35; refine HF.out.mono ?_; rintro e w2 ⟨rfl, n2, rfl⟩)
                  refine (words_any (some ⟨wr.heap.size, 0, none⟩) 3 wBreak [(b : Int), (j : Int), (c : Int)] (by decide) (by show 3 ≤ 1000; omega) HRD.out _ (cells3_C (World.alloc_heap_new (wr.drewN n2) _)) (Nat.le_refl 3)).mono ?_
                  rintro e w3 ⟨rfl, hb3⟩
                  go_wp2
                  go_ret2
                  refine ⟨by rw [HL.out]; rfl, ?_⟩
                  exact below_step ((pw_below_drewN hBc.out _).alloc (by have := hBc.out.size; simp; omega) _) hb3
              · go_wp2
                go_roundw
                case rel => exact ⟨b + 1, by go_num, by omega, ⟨by rw [tripB_step, ← tripC_end j b p.length c (by omega) hc2, ← List.append_assoc]; exact hJc.out⟩, hBc⟩
                case measure => simp [intOf]; omega
          · have hbe : b = j := by omega
            subst hbe
            go_wp2
            go_roundw
            case rel => exact ⟨b + 1, by go_num, by omega, by omega, ⟨by rw [tripA_step _ _ hj1]; exact hJb.out⟩, hBb⟩
            case measure => simp [intOf]; omega
      · have hl : fairP p = (ByteArray.empty, false) := by
          have he : tripA p.length j = tripA p.length p.length := by
            rcases hj2 with h | rfl
            · rw [show j = p.length by omega]
            · unfold tripA; rw [show p.length - 1 = 0 by omega]
          unfold fairP fairFind; rw [HM.out, if_pos rfl, List.find?_eq_none.2 (fun y hy => by rw [hJa.out y (by rw [he]; exact hy)]; simp)]
        have HL := Aside0.mk hl
        clear hl
        go_wp2
        go_ret2
        exact ⟨by rw [HL.out]; rfl, hBa.out⟩
end Go.Proofs.Ytlhbdeebkkpkmaa
