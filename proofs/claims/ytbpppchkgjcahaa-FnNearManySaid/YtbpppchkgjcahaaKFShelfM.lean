/- Texts of this claim's, joined by a program: FShelf, FBuild, FTextG, FFloorOf. -/
import Derived.Shelf.Strings.Builder1
import Derived.Shelf.Small.Wraps
import Derived.Shelf.Strings.BuilderF
import Derived.Shelf.Strings.BuilderK
import Derived.Shelf.Strings.Search1
import Derived.Shelf.Strings.Search2
import Derived.Shelf.Strings.Search3
import Derived.Shelf.Strings.Count
import Derived.Shelf.LaysM
import Derived.Shelf.Strings.Shaped
import Derived.Shelf.Sort.Plain
import Derived.Shelf.Bits.Mul64
import Derived.Shelf.Strings.BuilderCap
import Derived.Shelf.Slices.Turned
import Derived.Shelf.Slices.Equal
import Derived.Ground.Names2Prog
import Derived.Shelf.Slices.CompactI
import Derived.Shelf.Slices.SearchI
import Derived.Shelf.Slices.Empties2
import Derived.Test.YtbpppchkgjcahaaProg
import Derived.Test.YtbpppchkgjcahaaKFReadG
section
namespace Go.Proofs
open Go.Shelf
def Try.lays169_ren : Go.Shelf.Ren := ⟨fun | 169 => 171 | n => n, fun | 70 => 167 | 9 => 9 | 0 => 0 | 72 => 169 | 37 => 29 | 127 => 197 | 3 => 3 | 5 => 5 | n => n, fun | n => n⟩
theorem Try.lays169 : Go.Proofs.Lays.n169 Try.prog Try.lays169_ren := {
  mixed := by kernel_rfl
  f169 := Try.func171.trans (congrArg some (by kernel_rfl))
  t0 := Try.underlying0
  a0 := Try.isAgg0
  z0 := Try.sizeOf0
  v0 := Try.zeroValue0
  t3 := Try.underlying3
  a3 := Try.isAgg3
  z3 := Try.sizeOf3
  v3 := Try.zeroValue3
  t9 := Try.underlying9
  a9 := Try.isAgg9
  z9 := Try.sizeOf9
  v9 := Try.zeroValue9
  t37 := Try.underlying29
  a37 := Try.isAgg29
  z37 := Try.sizeOf29
  v37 := Try.zeroValue29
  t70 := Try.underlying167
  a70 := Try.isAgg167
  z70 := Try.sizeOf167
  v70 := Try.zeroValue167
  t72 := Try.underlying169
  a72 := Try.isAgg169
  z72 := Try.sizeOf169
  v72 := Try.zeroValue169
  t127 := Try.underlying197
  a127 := Try.isAgg197
  z127 := Try.sizeOf197
  v127 := Try.zeroValue197 }
theorem Try.Builder_Extra_169 : Builder.Extra Try.prog Try.lays169_ren := {
  sizeBuilder := by kernel_rfl
  liesBuilder := by kernel_rfl
  t5 := Try.underlying5
  a5 := Try.isAgg5
  z5 := Try.sizeOf5
  v5 := Try.zeroValue5
  infoByte := by kernel_rfl
  cellsByte := by kernel_rfl
  sizeByte := by kernel_rfl
  neB5 := by decide }
open Go.RowKit in
theorem Try.Builder_String_any (B b : Nat) (l : List UInt8) (w : World) (h : Lib.IsBuilder 169 5 B b (Lib.byteCells l) w) (hBw : B ≤ w.heap.size) :
    Calls Try.prog 171 #[.pointer (some ⟨b, 0, none⟩)] w fun e w' => e = .returned (.string ⟨l.toArray⟩) ∧ Below B w w' := Any.Builder_String_any Try.lays169 Try.Builder_Extra_169 B b l w h hBw
def Try.lays189_ren : Go.Shelf.Ren := ⟨fun | 189 => 192 | 125 => 220 | 257 => 219 | 128 => 234 | 129 => 235 | 294 => 225 | 295 => 226 | 296 => 227 | 297 => 228 | 298 => 229 | 299 => 230 | 216 => 231 | 300 => 232 | 301 => 233 | 328 => 240 | 329 => 241 | 330 => 242 | 331 => 243 | 332 => 244 | 215 => 245 | 343 => 248 | n => n, fun | 28 => 34 | 3 => 3 | 46 => 181 | 0 => 0 | 51 => 203 | 53 => 206 | 4 => 4 | 183 => 218 | 182 => 217 | 131 => 32 | 5 => 5 | 9 => 9 | 218 => 225 | 222 => 229 | 228 => 232 | 229 => 50 | n => n, fun | n => n⟩
theorem Try.lays189 : Go.Proofs.Lays.n189 Try.prog Try.lays189_ren := {
  mixed := by kernel_rfl
  f125 := Try.func220.trans (congrArg some (by kernel_rfl))
  f128 := Try.func234.trans (congrArg some (by kernel_rfl))
  f129 := Try.func235.trans (congrArg some (by kernel_rfl))
  f189 := Try.func192.trans (congrArg some (by kernel_rfl))
  f215 := Try.func245.trans (congrArg some (by kernel_rfl))
  f216 := Try.func231.trans (congrArg some (by kernel_rfl))
  f257 := Try.func219.trans (congrArg some (by kernel_rfl))
  f294 := Try.func225.trans (congrArg some (by kernel_rfl))
  f295 := Try.func226.trans (congrArg some (by kernel_rfl))
  f296 := Try.func227.trans (congrArg some (by kernel_rfl))
  f297 := Try.func228.trans (congrArg some (by kernel_rfl))
  f298 := Try.func229.trans (congrArg some (by kernel_rfl))
  f299 := Try.func230.trans (congrArg some (by kernel_rfl))
  f300 := Try.func232.trans (congrArg some (by kernel_rfl))
  f301 := Try.func233.trans (congrArg some (by kernel_rfl))
  f328 := Try.func240.trans (congrArg some (by kernel_rfl))
  f329 := Try.func241.trans (congrArg some (by kernel_rfl))
  f330 := Try.func242.trans (congrArg some (by kernel_rfl))
  f331 := Try.func243.trans (congrArg some (by kernel_rfl))
  f332 := Try.func244.trans (congrArg some (by kernel_rfl))
  f343 := Try.func248.trans (congrArg some (by kernel_rfl))
  t0 := Try.underlying0
  a0 := Try.isAgg0
  z0 := Try.sizeOf0
  v0 := Try.zeroValue0
  t3 := Try.underlying3
  a3 := Try.isAgg3
  z3 := Try.sizeOf3
  v3 := Try.zeroValue3
  t4 := Try.underlying4
  a4 := Try.isAgg4
  z4 := Try.sizeOf4
  v4 := Try.zeroValue4
  t5 := Try.underlying5
  a5 := Try.isAgg5
  z5 := Try.sizeOf5
  v5 := Try.zeroValue5
  t9 := Try.underlying9
  a9 := Try.isAgg9
  z9 := Try.sizeOf9
  v9 := Try.zeroValue9
  t28 := Try.underlying34
  a28 := Try.isAgg34
  z28 := Try.sizeOf34
  v28 := Try.zeroValue34
  t46 := Try.underlying181
  a46 := Try.isAgg181
  z46 := Try.sizeOf181
  v46 := Try.zeroValue181
  t51 := Try.underlying203
  a51 := Try.isAgg203
  z51 := Try.sizeOf203
  v51 := Try.zeroValue203
  t53 := Try.underlying206
  a53 := Try.isAgg206
  z53 := Try.sizeOf206
  v53 := Try.zeroValue206
  t131 := Try.underlying32
  a131 := Try.isAgg32
  z131 := Try.sizeOf32
  v131 := Try.zeroValue32
  t182 := Try.underlying217
  a182 := Try.isAgg217
  z182 := Try.sizeOf217
  v182 := Try.zeroValue217
  t183 := Try.underlying218
  a183 := Try.isAgg218
  z183 := Try.sizeOf218
  v183 := Try.zeroValue218
  t218 := Try.underlying225
  a218 := Try.isAgg225
  z218 := Try.sizeOf225
  v218 := Try.zeroValue225
  t222 := Try.underlying229
  a222 := Try.isAgg229
  z222 := Try.sizeOf229
  v222 := Try.zeroValue229
  t228 := Try.underlying232
  a228 := Try.isAgg232
  z228 := Try.sizeOf232
  v228 := Try.zeroValue232
  t229 := Try.underlying50
  a229 := Try.isAgg50
  z229 := Try.sizeOf50
  v229 := Try.zeroValue50 }
open Go.Sort Go.RowKit in
theorem Try.slices_Sort_int (blk off cap : Nat) (zs : List Int) (w : World) (hH : Holds (Value.int .i64) w blk off zs.toArray) (hblk : blk < w.heap.size) (hsz : zs.length < 4611686018427387904) :
    Calls Try.prog 192 #[.slice (some ⟨blk, off, none⟩) zs.length cap] w fun e w' =>
      e = .returned (.tuple #[]) ∧ ∃ n os, w' = grow (putRow (Value.int .i64) (Sort.ahead w n) blk off (zs.mergeSort fun x y => decide (x ≤ y)).toArray) os := Any.slices_Sort_int Try.lays189 blk off cap zs w hH hblk hsz
def Try.laysNm220_ren : Go.Shelf.Ren := ⟨fun | 20 => 193 | n => n, fun | 22 => 34 | 3 => 3 | 4 => 4 | 0 => 0 | n => n, fun | n => n⟩
theorem Try.laysNm220 : Go.Proofs.Lays2.n20 Try.prog Try.laysNm220_ren := {
  mixed := by kernel_rfl
  f20 := Try.func193.trans (congrArg some (by kernel_rfl))
  t0 := Try.underlying0
  a0 := Try.isAgg0
  z0 := Try.sizeOf0
  v0 := Try.zeroValue0
  t3 := Try.underlying3
  a3 := Try.isAgg3
  z3 := Try.sizeOf3
  v3 := Try.zeroValue3
  t4 := Try.underlying4
  a4 := Try.isAgg4
  z4 := Try.sizeOf4
  v4 := Try.zeroValue4
  t22 := Try.underlying34
  a22 := Try.isAgg34
  z22 := Try.sizeOf34
  v22 := Try.zeroValue34
  i3 := by kernel_rfl }
open Go.RowKit Go.Lib Go.Sort in
theorem Try.slices_Compact_int (blk off cap : Nat) (zs : List Int) (w : World) (hH : Holds (Value.int .i64) w blk off zs.toArray) (hsz : zs.length ≤ 9223372036854775807) (hcap : zs.length ≤ cap) :
    Calls Try.prog 193 #[.slice (some ⟨blk, off, none⟩) zs.length cap] w fun e w' => e = .returned (.slice (some ⟨blk, off, none⟩) (Lib.compact zs).length cap) ∧ ∃ q, w' = putRow (Value.int .i64) (Sort.ahead w q) blk off (Lib.compact zs ++ List.replicate (zs.length - (Lib.compact zs).length) 0).toArray := Any.slices_Compact_int Try.laysNm220 blk off cap zs w hH hsz hcap
end Go.Proofs
end
section
namespace Go.Proofs.Ytbpppchkgjcahaa
open Go.RowKit Go.Shelf Go.Proofs.YtbpppchkgjcahaaW.PrintWords Go.Proofs.YtbpppchkgjcahaaW.PrintMore
set_option linter.unusedVariables false
theorem builder_info : ∃ j : TypeInfo, Try.prog.info? 169 = some j ∧ j.size = 2 := by
  have h : (Try.prog.info? 169).map (·.size) = some 2 := by kernel_rfl
  exact Option.map_eq_some_iff.1 h
theorem builder_lies : liesAt Try.prog Try.prog.depth 169 (2 / Try.prog.cellsOf 169) 0 169 1 = true := by kernel_rfl
theorem byte_info : (Try.prog.info? 5).map (fun i => (i.zero, i.size, i.bytes)) = some (some (.int .u8 0), 1, 1) := by kernel_rfl
set_option maxRecDepth 100000 in
set_option maxHeartbeats 4000000 in
theorem copyCheck_used (b : Nat) (w : World) (h0 : w.cell? ⟨b, 0, none⟩ = some (.pointer (some ⟨b, 0, none⟩))) :
    Calls Try.prog 206 #[.pointer (some ⟨b, 0, none⟩)] w fun e w' => e = .returned (.tuple #[]) ∧ w' = w := by
  obtain ⟨j, hj, _⟩ := builder_info
  go_enter Try.func206, Try.ntmps206
  go_wp2
  rw [Lib.run_neq_ptr_same w _ Try.underlying167 hj]
  go_wp2
  go_end0
  exact ⟨rfl, rfl⟩
set_option maxRecDepth 100000 in
set_option maxHeartbeats 4000000 in
theorem copyCheck_fresh (b : Nat) (w : World) (h0 : w.cell? ⟨b, 0, none⟩ = some (.pointer none)) (hsh : w.shape? b = some (169, 2)) (hfz : w.frozen? ⟨b, 0, none⟩ = false) :
    Calls Try.prog 206 #[.pointer (some ⟨b, 0, none⟩)] w fun e w' => e = .returned (.tuple #[]) ∧ w' = w.setCell ⟨b, 0, none⟩ (.pointer (some ⟨b, 0, none⟩)) := by
  obtain ⟨j, hj, hjs⟩ := builder_info
  go_enter Try.func206, Try.ntmps206
  go_wp2
  rw [Lib.run_to_unsafe w ⟨b, 0, none⟩ Try.underlying167 Try.underlying212 hj (by rw [hjs]; decide) hsh (Nat.zero_lt_succ 1)]
  simp only [Result.andThen]
  rw [Oper.upon_value]
  go_wp2
  rw [run_callFunc_extern Try.func222 (by kernel_rfl) (by kernel_rfl) (by kernel_rfl) (e := Extern.AbiNoEscape.same) (by kernel_rfl)]
  rw [Lib.run_noEscape]
  simp only [Result.andThen]
  rw [Oper.upon_value]
  go_wp2
  rw [Lib.run_from_unsafe w ⟨b, 0, none⟩ Try.underlying212 Try.underlying167 hj hsh builder_lies]
  simp only [Result.andThen]
  rw [Oper.upon_value]
  go_wp2
  go_end0
  exact ⟨rfl, rfl⟩
abbrev IsB (B b : Nat) (bs : List Value) (w : World) : Prop := Lib.IsBuilder 169 5 B b bs w
theorem copyCheck_any (B b : Nat) (bs : List Value) (w : World) (h : IsB B b bs w) :
    Calls Try.prog 206 #[.pointer (some ⟨b, 0, none⟩)] w fun e w' => e = .returned (.tuple #[]) ∧ Lib.BuilderAt 169 5 B b (.pointer (some ⟨b, 0, none⟩)) bs w' ∧ Below B w w' := by
  rcases h with h | h
  · exact (copyCheck_fresh b w h.cell0 h.shape h.frozen0).mono fun e w' ⟨he, hw⟩ => ⟨he, by rw [hw]; exact h.used _, by rw [hw]; exact (Below.refl _ _).setCell (p := ⟨b, 0, none⟩) h.1 _⟩
  · exact (copyCheck_used b w h.cell0).mono fun e w' ⟨he, hw⟩ => ⟨he, by rw [hw]; exact h, by rw [hw]; exact Below.refl _ _⟩
set_option maxRecDepth 100000 in
set_option maxHeartbeats 4000000 in
theorem writeByte_any (B b : Nat) (bs : List Value) (c : Int) (w : World) (h : IsB B b bs w) (hlen : bs.length + 1 ≤ 140737488355328) (hBw : B ≤ w.heap.size) :
    Calls Try.prog 170 #[.pointer (some ⟨b, 0, none⟩), .int .u8 c] w fun e w' => e = .returned .nilIface ∧ IsB B b (bs ++ [.int .u8 c]) w' ∧ Below B w w' := by
  obtain ⟨i0, hi, hz0, hz1, hz2⟩ := info_parts byte_info
  have HC := copyCheck_any B b bs w h
  go_enter Try.func170, Try.ntmps170
  go_wp2_with (go_at_call 206; refine HC.mono ?_)
  rintro e w1 ⟨rfl, h1, hb1⟩
  obtain ⟨hB, v, hbk, hown, hne⟩ := h1
  have c0 : w1.cell? ⟨b, 0, none⟩ = some (.pointer (some ⟨b, 0, none⟩)) := by rw [Lib.cell_of_heap hbk]; rfl
  have c1 : w1.cell? ⟨b, 1, none⟩ = some v := by rw [Lib.cell_of_heap hbk]; rfl
  have HO := Aside0.mk hown
  clear hown
  go_wp2_with (at_builtin; refine wpList_append_own _ rfl _ _ 29 rfl B 5 i0 (.int .u8 0) 1 1 Try.underlying29 hi hz0 hz1 hz2 rfl (by decide) _ _ _ rfl (HO.out.alloc _) ⟨w1.heap.size, 0, none⟩ 1 1 [.int .u8 c] rfl rfl ?c1 ?c2 ?c3 ?c4 ?c5 ?_)
  case c1 =>
    intro j u hj
    match j, hj with
    | 0, hj => simp at hj; subst hj; simp [Addr.add]
  case c2 => intro u hu; simp at hu; subst hu; rfl
  case c3 => unfold maxLen; omega
  case c4 => omega
  case c5 => have := hb1.size; simp; omega
  intro v' w2 hown' hgrow _
  have hlt : b < w1.heap.size := Lib.BuilderAt.lt (T := 169) (e := 5) (p := .pointer (some ⟨b, 0, none⟩)) (bs := bs) ⟨hB, v, hbk, HO.out, hne⟩
  have hb2 : w2.heap[b]? = some (.cells #[.pointer (some ⟨b, 0, none⟩), v] 169 (0, 0)) := by
    rw [hgrow.block b (by simp; omega) (fun e => hne e.symm), Lib.alloc_old w1 _ b hlt]
    exact hbk
  have d0 : w2.cell? ⟨b, 0, none⟩ = some (.pointer (some ⟨b, 0, none⟩)) := by rw [Lib.cell_of_heap hb2]; rfl
  have d1 : w2.cell? ⟨b, 1, none⟩ = some v := by rw [Lib.cell_of_heap hb2]; rfl
  have f1 : w2.frozen? ⟨b, 1, none⟩ = false := Lib.frozen_of_heap hb2 1
  obtain ⟨g, cap, rfl⟩ : ∃ g cap, v' = .slice (some ⟨g, 0, none⟩) (bs.length + 1) cap := by
    rcases hown'.2 with ⟨_, h0⟩ | ⟨g, cap, cur, hv, _⟩
    · omega
    · exact ⟨g, cap, hv⟩
  have HO2 := Aside0.mk hown'
  clear hown'
  go_wp2
  go_ret
  refine ⟨rfl, .inr ?_, ?_⟩
  · exact Lib.BuilderAt.put (T := 169) (e := 5) hB hb2 (bs' := bs ++ [.int .u8 c]) (by simpa using HO2.out) (by decide)
  · exact ((hb1.alloc (by have := hb1.size; omega) _).grown hgrow (by have := hb1.size; simp; omega) (fun k hk => (HO.out.lt k hk).1)).setCell (p := ⟨b, 1, none⟩) hB _
end Go.Proofs.Ytbpppchkgjcahaa
end
section
namespace Go.Proofs.Ytbpppchkgjcahaa
open Go.RowKit Go.Shelf Go.Proofs.YtbpppchkgjcahaaW.PrintWords Go.Proofs.YtbpppchkgjcahaaW.PrintMore
set_option linter.unusedVariables false
def letOf (k : Int) : UInt8 := UInt8.ofNat (97 + k).toNat
def rowBytes (row : List Int) : List UInt8 := row.map letOf
def rowText (row : List Int) : ByteArray := ⟨(rowBytes row).toArray⟩
theorem letOf_val {k : Int} (h : 0 ≤ k ∧ k ≤ 100) : ((letOf k).toNat : Int) = 97 + k := by
  unfold letOf
  rw [UInt8.toNat_ofNat']
  omega
theorem byteCells_let {k : Int} (h : 0 ≤ k ∧ k ≤ 100) (l : List UInt8) : Lib.byteCells (l ++ [letOf k]) = Lib.byteCells l ++ [.int .u8 (97 + k)] := by
  unfold Lib.byteCells
  rw [List.map_append]
  simp only [List.map_cons, List.map_nil]
  rw [letOf_val h]
def StrsAt (W : World) (ob : Nat) (n : Nat) (ss : List ByteArray) : Prop := W.heap[ob]? = some (Obj.cells (ss.map Value.string ++ List.replicate (n - ss.length) (Value.string ⟨#[]⟩)).toArray 9 (0, 0))
theorem StrsAt.put {W : World} {ob n : Nat} {ss : List ByteArray} (h : StrsAt W ob n ss) (hn : ss.length < n) (s : ByteArray) : StrsAt (W.setCell ⟨ob, ss.length, none⟩ (.string s)) ob n (ss ++ [s]) := by
  unfold StrsAt at *
  rw [blk_set h ss.length _]
  congr 2
  rw [List.setIfInBounds_toArray]
  congr 1
  rw [List.set_append_right _ _ (by simp), List.length_map, Nat.sub_self, show n - ss.length = (n - ss.length - 1) + 1 by omega, List.replicate_succ, List.set_cons_zero, List.map_append, List.append_assoc]
  congr 1
  rw [List.length_append, show n - (ss.length + [s].length) = n - ss.length - 1 by simp; omega]
  simp
theorem GridAt.below {W W' : World} {g n : Nat} {rows : List (Nat × List Int)} (h : GridAt W g n rows) (hb : Below W.heap.size W W') : GridAt W' g n rows :=
  ⟨by rw [hb.block g (Array.getElem?_eq_some_iff.1 h.1).1]; exact h.1, fun x hx => by have hr := h.2 x hx; unfold IntRow at *; rw [hb.block _ (Array.getElem?_eq_some_iff.1 hr).1]; exact hr⟩
set_option maxRecDepth 100000 in
set_option maxHeartbeats 16000000 in
theorem text_any (fb g h : Nat) (rv : Value) (rows : List (Nat × List Int)) (w : World) (hf : w.heap[fb]? = some (Obj.cells #[.slice (some ⟨g, 0, none⟩) h h, rv] 68 (0, 0))) (hg : GridAt w g h rows) (hl : rows.length = h) (hh : h ≤ 100) (hk : ∀ x ∈ rows, x.2.length ≤ 100 ∧ ∀ k ∈ x.2, (0 : Int) ≤ k ∧ k ≤ 100) :
    Calls Try.prog 106 #[.pointer (some ⟨fb, 0, none⟩)] w fun e w' => e = .returned (.slice (some ⟨w.heap.size, 0, none⟩) h h) ∧ StrsAt w' w.heap.size h ((rows.map Prod.snd).map rowText) ∧ Below w.heap.size w w' := by
  have mk1 : ∀ W : World, (Instr.makeSlice 22 (.int .i64 (h : Int)) (.int .i64 (h : Int))).run Try.prog W = .ok (.slice (some ⟨W.heap.size, 0, none⟩) h h) (W.alloc (.cells (madeCells #[.string ⟨#[]⟩] h) 9)) :=
    fun W => run_make_row' 22 9 (.string ⟨#[]⟩) 16 Try.underlying22 (by kernel_rfl) rfl .i64 .i64 h (by omega) (by omega) W
  have cf : w.cell? ⟨fb, 0, none⟩ = some (.slice (some ⟨g, 0, none⟩) h h) := by rw [Lib.cell_of_heap hf]; rfl
  have HHI : Aside0 (Calls Try.prog 124 #[.pointer (some ⟨fb, 0, none⟩)] w fun e w' => e = .returned (.int .i64 h) ∧ w' = w) := ⟨high_any _ _ h h w cf⟩
  have hfl : fb < w.heap.size := (Array.getElem?_eq_some_iff.1 hf).1
  have HG := Aside0.mk hg
  have HL := Aside0.mk hl
  have HK := Aside0.mk hk
  clear hg hl hk hf
  go_enter Try.func106, Try.ntmps106
  go_wp2_with fail
  refine HHI.out.mono ?_
  rintro e w' ⟨rfl, rfl⟩
  have ca : (w'.alloc (.cells (madeCells #[.string ⟨#[]⟩] h) 9)).cell? ⟨fb, 0, none⟩ = some (.slice (some ⟨g, 0, none⟩) h h) := (World.cell?_of_block (Below.heap_alloc _ _ _ hfl)).trans cf
  go_wp2_with fail
  go_loopw [17] (fun i wr => ∃ r : Nat, i = .int .i64 r ∧ r ≤ h ∧ Aside0 (StrsAt wr w'.heap.size h (((rows.take r).map Prod.snd).map rowText) ∧ Below w'.heap.size w' wr)) (fun i _ => h - (intOf i).toNat)
  case atStart =>
    refine ⟨0, rfl, Nat.zero_le _, ⟨?_, (Below.refl _ _).alloc (Nat.le_refl _) _⟩⟩
    unfold StrsAt
    rw [heap_alloc_new, made_rep]; rfl
  case round =>
    obtain ⟨r, rfl, hr, HD⟩ := hrel
    obtain ⟨wo, rfl⟩ : ∃ wo : World, wo = wr := ⟨_, rfl⟩
    have hr0 : (0 : Int) ≤ (r : Int) := by omega
    by_cases hlt : (r : Int) < (h : Int)
    · have hrl : r < rows.length := by rw [HL.out]; omega
      obtain ⟨⟨rb, row⟩, hrow⟩ : ∃ x, rows[r] = x := ⟨_, rfl⟩
      have hmem : (rb, row) ∈ rows := by rw [← hrow]; exact List.getElem_mem hrl
      have hk := HK.out _ hmem
      dsimp only at hk
      have hgo := HG.out.below HD.out.2
      have crow : wo.cell? ⟨g, r, none⟩ = some (.slice (some ⟨rb, 0, none⟩) row.length row.length) := hgo.cell r _ (by
        rw [List.getElem?_append_left (by rw [List.length_map]; exact hrl), List.getElem?_map, List.getElem?_eq_getElem hrl, hrow]; rfl)
      have hlen := hk.1
      have HKK := Aside0.mk hk.2
      have HIR : Aside0 (IntRow wo rb row) := ⟨hgo.2 _ hmem⟩
      have HROW := Aside0.mk hrow
      have HOB : Aside0 (w'.heap.size < wo.heap.size) := ⟨(Array.getElem?_eq_some_iff.1 HD.out.1).1⟩
      clear hgo hk hmem hrow
      go_wp2_with fail
      go_loopw [24] (fun i w2 => ∃ j : Nat, i = .int .i64 j ∧ j ≤ row.length ∧ Aside0 (IsB wo.heap.size wo.heap.size (Lib.byteCells (rowBytes (row.take j))) w2) ∧ Aside0 (Below wo.heap.size wo w2)) (fun i _ => row.length - (intOf i).toNat)
      case atStart => exact ⟨0, rfl, Nat.zero_le _, ⟨Lib.fresh_isBuilder 169 5 wo⟩, ⟨(Below.refl _ _).alloc (Nat.le_refl _) _⟩⟩
      case round =>
        obtain ⟨j, rfl, hj, HB, HBL⟩ := hrel
        have hj0 : (0 : Int) ≤ (j : Int) := by omega
        by_cases hjl : (j : Int) < (row.length : Int)
        · have hjr : j < row.length := by omega
          have cx : wr.cell? ⟨rb, j, none⟩ = some (.int .i64 row[j]) := (HBL.out.cell (p := ⟨rb, j, none⟩) (Array.getElem?_eq_some_iff.1 HIR.out).1).trans (HIR.out.cell j hjr)
          have hkb := HKK.out _ (List.getElem_mem hjr)
          obtain ⟨k, hkk⟩ : ∃ k, row[j] = k := ⟨_, rfl⟩
          rw [hkk] at cx hkb
          have hk0 := hkb.1
          have hk1 := hkb.2
          have HKV := Aside0.mk hkk
          have hS := HBL.out.size
          clear hkk hkb
          go_wp2_with (go_at_call 170; refine (writeByte_any wo.heap.size wo.heap.size _ _ _ HB.out (by unfold Lib.byteCells rowBytes; rw [List.length_map, List.length_map, List.length_take]; omega) (by omega)).mono ?_; rintro e w3 ⟨rfl, hB3, hb3⟩)
          refine ⟨⟨j + 1, by push_cast; rfl, by omega, ⟨?_⟩, ⟨HBL.out.trans hb3⟩⟩, by simp [intOf]; omega⟩
          have hb : rowBytes (row.take (j + 1)) = rowBytes (row.take j) ++ [letOf k] := by
            unfold rowBytes
            rw [List.take_succ_eq_append_getElem hjr, List.map_append, HKV.out]; rfl
          rw [hb, byteCells_let ⟨hk0, hk1⟩]
          exact hB3
        · have hjr : j = row.length := by omega
          have hB2 := HB.out
          rw [hjr, List.take_length] at hB2
          have HB2 := Aside0.mk hB2
          have hS := HBL.out.size
          have HJR := Aside0.mk hjr
          clear hB2 hjr HB
          obtain ⟨tx, htx⟩ : ∃ tx, rowBytes row = tx := ⟨_, rfl⟩
          rw [htx] at HB2
          have HTX := Aside0.mk htx
          clear htx
          have hc0 : wo.heap[w'.heap.size]? = some (Obj.cells ((((rows.take r).map Prod.snd).map rowText).map Value.string ++ List.replicate (h - (((rows.take r).map Prod.snd).map rowText).length) (Value.string ⟨#[]⟩)).toArray 9 (0, 0)) := HD.out.1
          have hle : (((rows.take r).map Prod.snd).map rowText).length = r := by simp; omega
          have hcs : ∀ W, Below wo.heap.size wo W → W.cell? ⟨w'.heap.size, r, none⟩ = some (.string ⟨#[]⟩) ∧ W.frozen? ⟨w'.heap.size, r, none⟩ = false := fun W hW => by
            have h1 := (hW.block w'.heap.size HOB.out).trans hc0
            refine ⟨?_, Lib.frozen_of_heap h1 r⟩
            rw [Lib.cell_of_heap h1]
            revert hle
            generalize ((rows.take r).map Prod.snd).map rowText = ss
            intro hle
            rw [List.getElem?_toArray, List.getElem?_append_right (by rw [List.length_map, hle]; exact Nat.le_refl _), List.length_map, hle, Nat.sub_self, List.getElem?_replicate, if_pos (by omega)]
          have HCS := Aside0.mk hcs
          have HLE := Aside0.mk hle
          clear hcs hc0 hle
          go_wp2_with fail
          refine Calls.mono (Try.Builder_String_any wo.heap.size wo.heap.size tx _ HB2.out (by omega)) ?_
          rintro e w4 ⟨rfl, hb4⟩
          have HB4 : Aside0 (Below wo.heap.size wo w4) := ⟨HBL.out.trans hb4⟩
          have cs1 := (HCS.out w4 HB4.out).1
          have cs2 := (HCS.out w4 HB4.out).2
          clear hb4
          go_wp2_with fail
          go_roundw
          case rel =>
            refine ⟨r + 1, by go_num, by omega, ⟨?_, ?_⟩⟩
            · have h4 : StrsAt w4 w'.heap.size h (((rows.take r).map Prod.snd).map rowText) := by
                unfold StrsAt
                rw [HB4.out.block w'.heap.size HOB.out]
                exact HD.out.1
              have h5 := h4.put (by rw [HLE.out]; omega) (rowText row)
              rw [HLE.out] at h5
              have h6 : ((rows.take (r + 1)).map Prod.snd).map rowText = ((rows.take r).map Prod.snd).map rowText ++ [rowText row] := by
                rw [List.take_succ_eq_append_getElem hrl, List.map_append, List.map_append, HROW.out]; rfl
              rw [h6]
              have h7 : rowText row = ⟨tx.toArray⟩ := by unfold rowText; rw [HTX.out]
              rw [h7] at h5 ⊢
              exact h5
            · exact (HD.out.2.trans (HB4.out.mono (Nat.le_of_lt HOB.out))).setCell (p := ⟨w'.heap.size, r, none⟩) (Nat.le_refl _) _
          case measure => simp [intOf]; omega
    · have hrh : r = h := by omega
      have hD1 := HD.out.1
      rw [List.take_of_length_le (by rw [HL.out]; omega)] at hD1
      have HD1 := Aside0.mk hD1
      clear hD1
      go_wp2_with fail
      go_ret
      exact ⟨rfl, (by rw [← List.map_map]; exact HD1.out), HD.out.2⟩
end Go.Proofs.Ytbpppchkgjcahaa
end
section
namespace Go.Proofs.Ytbpppchkgjcahaa
open Go.RowKit Go.Shelf Go.Proofs.YtbpppchkgjcahaaW.PrintWords Go.Proofs.YtbpppchkgjcahaaW.PrintMore
set_option linter.unusedVariables false
theorem toList_data (s : ByteArray) : s.toList = s.data.toList := by
  have key : ∀ (n i : Nat) (r : List UInt8), s.size - i = n → ByteArray.toList.loop s i r = r.reverse ++ s.data.toList.drop i := by
    intro n
    induction n with
    | zero =>
      intro i r h
      unfold ByteArray.toList.loop
      have : ¬ i < s.size := by omega
      rw [if_neg this, List.drop_of_length_le (by rw [Array.length_toList]; show s.size ≤ i; omega), List.append_nil]
    | succ n ih =>
      intro i r h
      unfold ByteArray.toList.loop
      have hi : i < s.size := by omega
      rw [if_pos hi, ih (i + 1) _ (by omega)]
      have hl : i < s.data.toList.length := by rw [Array.length_toList]; exact hi
      rw [List.reverse_cons, List.append_assoc, ← List.getElem_cons_drop hl]
      congr 1
      simp [ByteArray.get!]
      rw [getElem!_pos _ _ (by exact hi)]
  unfold ByteArray.toList
  rw [key s.size 0 [] rfl]
  simp
theorem toList_ne {s t : ByteArray} (h : ¬ s = t) : (s.toList == t.toList) = false := by
  rw [beq_eq_false_iff_ne, toList_data, toList_data]
  intro e
  apply h
  apply ByteArray.ext
  exact Array.toList_inj.1 e
set_option maxRecDepth 100000 in
set_option maxHeartbeats 8000000 in
theorem equal_any (A B : Option Addr) (c d : Nat) (p q : List ByteArray) (hp : p.length ≤ 2000000) (hq : q.length ≤ 2000000) (w : World) (h1 : Kd.C Kd.string w A p.length p) (h2 : Kd.C Kd.string w B q.length q) :
    Calls Try.prog 133 #[.slice A p.length c, .slice B q.length d] w fun e w' => e = .returned (.bool (decide (p = q))) ∧ Below w.heap.size w w' := by
  have HP := Aside0.mk h1
  have HQ := Aside0.mk h2
  clear h1 h2
  by_cases hl : p.length = q.length
  case neg =>
    have hpq : decide (p = q) = false := decide_eq_false (fun e => hl (by rw [e]))
    have HPQ := Aside0.mk hpq
    have z1 : ((p.length : Int) == (q.length : Int)) = false := by rw [beq_eq_false_iff_ne]; omega
    have z2 : ((p.length : Int) != (q.length : Int)) = true := by simp [bne, z1]
    clear hpq
    go_enter Try.func133, Try.ntmps133
    go_wp2
    go_ret
    exact ⟨by rw [HPQ.out]; rfl, Below.refl _ _⟩
  case pos =>
    have HL := Aside0.mk hl
    rw [← hl]
    clear hl
    go_enter Try.func133, Try.ntmps133
    go_wp2
    go_loopw [13] (fun i wr => ∃ k : Nat, i = .int .i64 k ∧ k ≤ p.length ∧ Aside0 ((∀ j, j < k → p[j]? = q[j]?) ∧ Below w.heap.size w wr)) (fun i _ => p.length - (intOf i).toNat)
    case atStart => exact ⟨0, rfl, Nat.zero_le _, ⟨fun j hj => absurd hj (by omega), Below.refl _ _⟩⟩
    case round =>
      obtain ⟨k, rfl, hk, HD⟩ := hrel
      have hk0 : (0 : Int) ≤ (k : Int) := by omega
      by_cases hlt : (k : Int) < (p.length : Int)
      · have hkp : k < p.length := by omega
        have hkq : k < q.length := by rw [← HL.out]; exact hkp
        obtain ⟨a1, rfl, f1⟩ := Kd.at_string (Kd.C_below HP.out HD.out.2) (k : Int) hk0 hlt
        obtain ⟨a2, rfl, f2⟩ := Kd.at_string (Kd.C_below HQ.out HD.out.2) (k : Int) hk0 (by rw [← HL.out]; exact hlt)
        rw [Int.toNat_natCast] at f1 f2
        have e1 : rdOf ByteArray.empty p (k : Int) = p[k] := by unfold rdOf; rw [Int.toNat_natCast, List.getD_eq_getElem?_getD, List.getElem?_eq_getElem hkp]; rfl
        have e2 : rdOf ByteArray.empty q (k : Int) = q[k] := by unfold rdOf; rw [Int.toNat_natCast, List.getD_eq_getElem?_getD, List.getElem?_eq_getElem hkq]; rfl
        rw [e1] at f1
        rw [e2] at f2
        obtain ⟨s, hs⟩ : ∃ s, p[k] = s := ⟨_, rfl⟩
        obtain ⟨t, ht⟩ : ∃ t, q[k] = t := ⟨_, rfl⟩
        rw [hs] at f1
        rw [ht] at f2
        have HS := Aside0.mk hs
        have HT := Aside0.mk ht
        clear e1 e2 hs ht
        by_cases hst : s = t
        · subst hst
          go_wp2
          go_quiet (fail)
          go_wp2
          go_roundw
          case rel =>
            refine ⟨k + 1, by go_num, by omega, ⟨fun j hj => ?_, pw_below_drewN HD.out.2 _⟩⟩
            by_cases e : j = k
            · rw [e, List.getElem?_eq_getElem hkp, List.getElem?_eq_getElem hkq, HS.out, HT.out]
            · exact HD.out.1 j (by omega)
          case measure => simp [intOf]; omega
        · have hb := toList_ne hst
          have hpq : decide (p = q) = false := decide_eq_false (fun e => by
            subst e
            exact hst (HS.out.symm.trans HT.out))
          have HPQ := Aside0.mk hpq
          clear hpq
          go_wp2
          go_quiet (fail)
          go_wp2
          go_ret
          exact ⟨by rw [HPQ.out]; rfl, pw_below_drewN HD.out.2 _⟩
      · have hkl : k = p.length := by omega
        have hpq : p = q := by
          apply List.ext_getElem?
          intro i
          by_cases hi : i < k
          · exact HD.out.1 i hi
          · rw [List.getElem?_eq_none (by omega), List.getElem?_eq_none (by rw [← HL.out]; omega)]
        have HPQ : Aside0 (decide (p = q) = true) := ⟨decide_eq_true hpq⟩
        clear hpq hkl
        go_wp2
        go_ret
        exact ⟨by rw [HPQ.out]; rfl, HD.out.2⟩
def planG (p : List ByteArray) : Bool := lettersB p && ((shapeB (rowsOf p) && decide ((scanOf (rowsOf p)).2.length ≤ 9)) && (fullB (rowsOf p) && decide ((numsOf (rowsOf p)).map rowText = p)))
def FloorOf (w w' : World) (p : List ByteArray) (e : Ending) : Prop := Below w.heap.size w w' ∧
  ((planG p = true ∧ ∃ fb base, e = .returned (.tuple #[.pointer (some ⟨fb, 0, none⟩), .bool true]) ∧ w.heap.size ≤ base ∧ FloorAt w' base fb (numsOf (rowsOf p)) (scanOf (rowsOf p)).2) ∨
   (planG p = false ∧ ∃ o, e = .returned (.tuple #[.pointer o, .bool false])))
theorem FloorAt.below {W W' : World} {base fb : Nat} {nums : List (List Int)} {boxes : List Box} (h : FloorAt W base fb nums boxes) (hb : Below W.heap.size W W') : FloorAt W' base fb nums boxes := by
  obtain ⟨g, hh, rv, rows, h1, h2, h3, h4, h5, h6⟩ := h
  exact ⟨g, hh, rv, rows, by rw [hb.block _ (Array.getElem?_eq_some_iff.1 h1).1]; exact h1, h2.below hb, h3, h4, own_move h5 (fun j hj => hb.block j (h5.lt j hj).2), h6⟩
theorem nums_small {p : List ByteArray} (hs : shapeB (rowsOf p) = true) : (numsOf (rowsOf p)).length ≤ 6 ∧ ∀ row ∈ numsOf (rowsOf p), row.length ≤ 6 ∧ ∀ k ∈ row, (0 : Int) ≤ k ∧ k ≤ 100 := by
  have h6 : (rowsOf p).length ≤ 6 ∧ ((rowsOf p).getD 0 []).length ≤ 6 := by
    unfold shapeB at hs
    simp only [Bool.and_eq_true, decide_eq_true_eq] at hs
    exact ⟨hs.1.1.1.2, hs.1.2⟩
  unfold numsOf
  refine ⟨by rw [List.length_map, List.length_range]; exact h6.1, fun row hrow => ?_⟩
  obtain ⟨r, hr, rfl⟩ := List.mem_map.1 hrow
  have hr := List.mem_range.1 hr
  refine ⟨by rw [List.length_map, List.length_range]; exact h6.2, fun k hk => ?_⟩
  obtain ⟨c, hc, rfl⟩ := List.mem_map.1 hk
  have hc := List.mem_range.1 hc
  refine ⟨Int.natCast_nonneg _, ?_⟩
  have h1 : numAt ((rowsOf p).getD 0 []).length (cellOf (rowsOf p) ((rowsOf p).getD 0 []).length) (r * ((rowsOf p).getD 0 []).length + c) ≤ r * ((rowsOf p).getD 0 []).length + c := by
    unfold numAt
    exact Nat.le_trans List.idxOf_le_length (scan_len_le _ _ _)
  have h2 : r * ((rowsOf p).getD 0 []).length ≤ 5 * 6 := Nat.mul_le_mul (by omega) h6.2
  omega
theorem StrsAt.reads {W : World} {ob h : Nat} {ss : List ByteArray} (hs : StrsAt W ob h ss) (hl : ss.length = h) (hm : h ≤ 1000) : Kd.C Kd.string W (some ⟨ob, 0, none⟩) ss.length ss := by
  refine Kd.C_of_reads (d := ByteArray.empty) (enc := Value.string) (h1 := fun _ => rfl) ⟨rfl, by omega, fun _ => ⟨⟨ob, 0, none⟩, rfl, fun j hj => ?_⟩⟩
  rw [add_plain, Lib.cell_of_heap hs, hl, Nat.sub_self, List.replicate_zero, List.append_nil]
  simp [List.getD_eq_getElem?_getD, List.getElem?_eq_getElem hj]
set_option maxRecDepth 100000 in
set_option maxHeartbeats 8000000 in
theorem floorOf_any (A : Option Addr) (cap : Nat) (p : List ByteArray) (hp : p.length ≤ 2000000) (hs : ∀ s ∈ p, s.size ≤ 2000000) (w : World) (hr0 : Kd.C Kd.string w A p.length p) (hc0 : p.length ≤ cap) :
    Calls Try.prog 80 #[.slice A p.length cap] w fun e w' => FloorOf w w' p e := by
  have HRD := read_any A cap p hp hs w hr0 hc0
  have HP := Aside0.mk hr0
  clear hr0 hs
  go_enter Try.func80, Try.ntmps80
  go_wp2_with fail
  refine HRD.mono ?_
  rintro e w1 (⟨hlet, w0, hb0, hb1, ⟨hsh, fb, rfl, hfl⟩ | ⟨hsh, rfl⟩⟩ | ⟨hlet, rfl, hb1⟩)
  · have HB := Aside0.mk (hb0.trans (hb1.mono hb0.size))
    have HB0 := Aside0.mk hb0
    cases hfu : fullB (rowsOf p) with
    | false =>
      have hpl : planG p = false := by unfold planG; rw [hfu]; simp
      have HPL := Aside0.mk hpl
      clear hpl hlet hsh hfl hb0 hb1 hfu
      go_wp2_with fail
      go_ret2
      exact ⟨HB.out, .inr ⟨HPL.out, _, rfl⟩⟩
    | true =>
      have hshape : shapeB (rowsOf p) = true := by simp only [Bool.and_eq_true] at hsh; exact hsh.1
      obtain ⟨hn1, hn2⟩ := nums_small hshape
      have HFL := Aside0.mk hfl
      obtain ⟨g, hh, rv, rows, k1, k2, k3, k4, k5, k6⟩ := hfl
      have hrows : ∀ x ∈ rows, x.2.length ≤ 100 ∧ ∀ k ∈ x.2, (0 : Int) ≤ k ∧ k ≤ 100 := fun x hx => by
        have := hn2 x.2 (by rw [← k3]; exact List.mem_map_of_mem hx)
        exact ⟨by omega, this.2⟩
      have hh6 : hh ≤ 6 := by
        rw [← k4]
        have := congrArg List.length k3
        rw [List.length_map] at this
        omega
      have HTX := text_any fb g hh rv rows w1 k1 k2 k4 (by omega) hrows
      have hslen : ((rows.map Prod.snd).map rowText).length = hh := by rw [List.length_map, List.length_map, k4]
      have HK3 := Aside0.mk k3
      have HPLAN : Aside0 (planG p = decide ((numsOf (rowsOf p)).map rowText = p)) := ⟨by unfold planG; rw [hlet, hsh, hfu]; simp⟩
      have HSL := Aside0.mk hslen
      clear k1 k2 k3 k4 k5 k6 hrows hn1 hn2 hshape hsh hlet hfu hslen hb0 hb1
      go_wp2_with fail
      refine HTX.mono ?_
      rintro e w2 ⟨rfl, hst, hb2⟩
      have HB2 := Aside0.mk hb2
      have HEQ := equal_any (some ⟨w1.heap.size, 0, none⟩) A hh cap ((rows.map Prod.snd).map rowText) p (by rw [HSL.out]; omega) hp w2 (StrsAt.reads hst HSL.out (by omega)) (Kd.C_below HP.out (HB.out.trans (hb2.mono HB.out.size)))
      rw [HSL.out, HK3.out, ← HPLAN.out] at HEQ
      clear hst hb2
      go_wp2_with fail
      refine HEQ.mono ?_
      rintro e w3 ⟨rfl, hb3⟩
      have HB3 : Aside0 (Below w1.heap.size w1 w3) := ⟨HB2.out.trans (hb3.mono HB2.out.size)⟩
      clear hb3 HEQ
      cases hpl : planG p with
      | true =>
        have HPL := Aside0.mk hpl
        clear hpl
        go_wp2_with fail
        go_ret2
        exact ⟨HB.out.trans (HB3.out.mono HB.out.size), .inl ⟨HPL.out, fb, w0.heap.size, rfl, HB0.out.size, HFL.out.below HB3.out⟩⟩
      | false =>
        have HPL := Aside0.mk hpl
        clear hpl
        go_wp2_with fail
        go_ret2
        exact ⟨HB.out.trans (HB3.out.mono HB.out.size), .inr ⟨HPL.out, _, rfl⟩⟩
  · have HB := Aside0.mk (hb0.trans (hb1.mono hb0.size))
    have hpl : planG p = false := by unfold planG; rw [hsh]; simp
    have HPL := Aside0.mk hpl
    clear hpl hlet hsh hb0 hb1
    go_wp2_with fail
    go_ret2
    exact ⟨HB.out, .inr ⟨HPL.out, _, rfl⟩⟩
  · have HB := Aside0.mk hb1
    have hpl : planG p = false := by unfold planG; rw [hlet]; rfl
    have HPL := Aside0.mk hpl
    clear hpl hlet hb1
    go_wp2_with fail
    go_ret2
    exact ⟨HB.out, .inr ⟨HPL.out, _, rfl⟩⟩
end Go.Proofs.Ytbpppchkgjcahaa
end
