/- Slices of a block's bytes. -/
import Derived.Test.YtgeiafijibgdhaaBlk
set_option linter.unusedVariables false
set_option linter.unusedSimpArgs false
namespace Go.Proofs.Ytgeiafijibgdhaa.Cl
open Go Go.Proofs Go.RowKit Fl

theorem under56 : Try.prog.underlying 26 = some (.array (Try.prog.arrayLen 26) (Try.prog.elem 26)) := by kernel_rfl
theorem len56 : Try.prog.arrayLen 26 = 56 := by kernel_rfl
theorem elem56 : Try.prog.elem 26 = 5 := by kernel_rfl
theorem sizeOf_u8 (w : World) : (sizeOf 5).run Try.prog w = .ok 1 w := by
  obtain ⟨j, hj, _⟩ := info_parts info5
  rw [run_sizeOf w hj, cellsU8]
theorem slice_body {g i n : Nat} (hi : i < 56) (hn : i + n ≤ 56) (l h : Int) (hl : l = (i : Int)) (hh : h = (i : Int) + (n : Int)) (w : World) :
    (Instr.sliceAt 26 (.pointer (some ⟨g, 1, none⟩)) (some (.int .i64 l)) (some (.int .i64 h)) none).run Try.prog w = .ok (.slice (some ⟨g, 1 + i, none⟩) n (56 - i)) w := by
  subst hl hh
  rw [run_sliceAt_array_lh w 26 _ under56 .i64 .i64 _ _ (by omega) (by omega) (by rw [len56]; omega), elem56, sizeOf_u8, len56]
  simp only [Result.andThen_ok, slicedAt, Nat.mul_one, Addr.add_mid]
  rw [if_neg (by omega), show ((i : Int) + (n : Int)).toNat - (i : Int).toNat = n by omega, Int.toNat_natCast]
theorem slice_body_all {g : Nat} (w : World) :
    (Instr.sliceAt 26 (.pointer (some ⟨g, 1, none⟩)) none none none).run Try.prog w = .ok (.slice (some ⟨g, 1, none⟩) 56 56) w := by
  rw [run_sliceAt_array_all w 26 _ under56, elem56, sizeOf_u8, len56]
  simp only [Result.andThen_ok, slicedAt, Nat.mul_one, Addr.add_mid]
  rw [if_neg (by omega)]
theorem BlkAt.rd {w : World} {g i n : Nat} {k : Int} {b : List UInt8} (h : BlkAt w g k b) (hn : i + n ≤ 56) : Rd w (.slice (some ⟨g, 1 + i, none⟩) n (56 - i)) (bs ((b.drop i).take n)) := by
  have hb := h.1
  have hl : (bs ((b.drop i).take n)).length = n := by rw [bs_length, List.length_take, List.length_drop]; omega
  refine ⟨some ⟨g, 1 + i, none⟩, 56 - i, by rw [hl], by rw [hl]; omega, by omega, fun j hj => ⟨_, rfl, ?_⟩, fun h => by cases h⟩
  rw [Addr.add_mid, Nat.add_assoc, h.byte (by omega)]
  rw [List.getElem_map, List.getElem_take, List.getElem_drop]
theorem BlkAt.rdAll {w : World} {g : Nat} {k : Int} {b : List UInt8} (h : BlkAt w g k b) : Rd w (.slice (some ⟨g, 1, none⟩) 56 56) (bs b) := by
  have := h.rd (i := 0) (n := 56) (Nat.le_refl _)
  rw [List.drop_zero, List.take_of_length_le (by rw [h.1]; omega)] at this
  exact this
end Go.Proofs.Ytgeiafijibgdhaa.Cl
