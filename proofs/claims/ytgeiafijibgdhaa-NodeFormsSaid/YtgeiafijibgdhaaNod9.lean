/- node.Take: the closure that reads a number. -/
import Derived.Test.YtgeiafijibgdhaaNod7
set_option linter.unusedVariables false
set_option linter.unusedSimpArgs false
namespace Go.Proofs.Ytgeiafijibgdhaa.Cl
open Go Go.Proofs Go.RowKit Fl Rely

abbrev IntAt (w : World) (g : Nat) (n : Int) : Prop := RowAt w g 3 #[.int .i64 n]
def part (b : List UInt8) (at_ n : Nat) : List UInt8 := (b.drop at_).take n
theorem part_succ (b : List UInt8) (a k : Nat) (h : a + k < b.length) : part b a (k + 1) = part b a k ++ [b[a + k]] := by
  unfold part
  rw [List.take_succ_eq_append_getElem (by rw [List.length_drop]; omega), List.getElem_drop]
theorem part_length (b : List UInt8) (a k : Nat) : (part b a k).length ≤ k := by
  unfold part
  rw [List.length_take]
  omega
theorem grown2 {w w1 w2 : World} {g : Nat} (h : w.grownBy w1 (some g)) (k : w1.grownBy w2 (some g)) : w.grownBy w2 (some g) :=
  ⟨k.os.trans h.os, k.tape.trans h.tape, k.output.trans h.output, Nat.le_trans h.size k.size, fun i hi hn => (k.block i (Nat.lt_of_lt_of_le hi h.size) hn).trans (h.block i hi hn)⟩
def TkRel (bb : List UInt8) (kd : Int) (gb ga at_ n : Nat) (w : World) (v i : Value) (wr : World) : Prop := ∃ k : Nat, k ≤ n ∧ i = .int .i64 (k : Int) ∧ v = .int .u32 (num (part bb at_ k) : Nat) ∧ IntAt wr ga ((at_ + k : Nat) : Int) ∧ BlkAt wr gb kd bb ∧ w.grownBy wr (some ga) ∧ wr.heap.size = w.heap.size
set_option maxRecDepth 100000 in
set_option maxHeartbeats 4000000 in
theorem takeNum_any (kd : Int) (bb : List UInt8) (gb ga at_ n : Nat) (w : World) (hb : BlkAt w gb kd bb) (ha : IntAt w ga (at_ : Int)) (hne : gb ≠ ga) (hn : n ≤ 4) (hat : at_ + n ≤ 56) :
    Calls Try.prog 48 #[.int .i64 (n : Int), .pointer (some ⟨gb, 0, none⟩), .pointer (some ⟨ga, 0, none⟩)] w fun e w' => e = .returned (.int .u32 (num (part bb at_ n) : Nat)) ∧ IntAt w' ga ((at_ + n : Nat) : Int) ∧ w.grownBy w' (some ga) ∧ w'.heap.size = w.heap.size := by
  have hl := hb.1
  go_enter Try.func48, Try.ntmps48
  go_wp2_with fail
  go_loopw [4, 6] (fun v i wr => TkRel bb kd gb ga at_ n w v i wr) (fun _ i _ => n - (intOf i).toNat)
  case atStart => exact ⟨0, Nat.zero_le _, rfl, rfl, ha, hb, World.grownBy.refl _ _, rfl⟩
  case round =>
    obtain ⟨k, hk, rfl, rfl, ha, hb, hg, hz⟩ := hrel
    by_cases hlt : k < n
    · have hlI : (k : Int) < (n : Int) := by omega
      have hkb : at_ + k < bb.length := by omega
      have hcb := hb.byte hkb
      have hts := Lib.hid (part_succ bb at_ k hkb)
      have hnm : num (part bb at_ k) < 16777216 := Nat.lt_of_lt_of_le (num_lt _) (Nat.le_trans (Nat.pow_le_pow_right (by decide) (show (part bb at_ k).length ≤ 3 by have := part_length bb at_ k; omega)) (by decide))
      have hsn := Lib.hid (fun b => num_snoc (part bb at_ k) b)
      generalize num (part bb at_ k) = m at *
      generalize bb[at_ + k] = c at *
      have hc8 := c.toNat_lt
      have hor := u32_or_add m c.toNat 8 256 rfl (by omega) (by omega) (by omega)
      have hca := ha.cell 0 _ rfl
      have hfa := ha.frozen (i := 0)
      obtain ⟨ha2, g2, z2⟩ := ha.set 0 (.int .i64 ((at_ : Int) + (k : Int) + 1))
      have hb2 := hb.grown g2 hne
      have hb2' := grown2 hg g2
      have Hor := Lib.hid hor
      clear hor
      go_wp2_with fail
      go_roundw
      case rel =>
        refine ⟨k + 1, by omega, by go_num, ?_, ?_, hb2, hb2', z2.trans hz⟩
        · rw [hts.out, hsn.out, ← Hor.out]
          rfl
        · have e : (#[Value.int IntKind.i64 ((at_ + k : Nat) : Int)] : Array Value).setIfInBounds 0 (.int .i64 ((at_ : Int) + (k : Int) + 1)) = #[.int .i64 ((at_ + (k + 1) : Nat) : Int)] := by
            simp
            omega
          unfold IntAt
          rw [← e]
          exact ha2
      case measure => simp only [intOf]; omega
    · obtain rfl : k = n := by omega
      have hlI : ¬ (k : Int) < (k : Int) := by omega
      go_wp2_with fail
      go_ret
      exact ⟨rfl, ha, hg, hz⟩
end Go.Proofs.Ytgeiafijibgdhaa.Cl
