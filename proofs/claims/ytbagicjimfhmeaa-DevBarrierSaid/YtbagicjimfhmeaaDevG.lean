/- clathrilaw4: begun. -/
import Derived.Test.YtbagicjimfhmeaaDevF
set_option linter.unusedVariables false
set_option linter.unusedSimpArgs false
namespace Go.Proofs.Ytbagicjimfhmeaa.Cl
open Go Go.Proofs Go.RowKit Fl

def B7 : List UInt8 := 7 :: List.replicate 63 0
def bD0 : Dv := newD ([2, 1].map Int.toNat)
def bD1 : Dv := writeZ bD0 1 0 B7
def bD2 : Dv := crashD bD1 []
def bD3 : Dv := writeZ bD2 0 1 B7
def bD4 : Dv := barrierZ bD3 0
def bD5 : Dv := crashD bD4 []
theorem bFacts : inB bD0 1 0 = true ∧ inB bD1 1 0 = true ∧ readZ bD1 1 0 = B7 ∧ inB bD2 1 0 = true ∧ readZ bD2 1 0 = Z64 ∧ inB bD3 0 0 = true ∧ inB bD5 0 1 = true ∧ readZ bD5 0 1 = B7 ∧ bD5.1.length = 2 ∧ (traceZ bD5 0).length = 2 ∧ bD5.2 = -1 := by decide +kernel
theorem B7_length : B7.length = 64 := by simp [B7]
theorem Byt.first {w : World} {v : Value} {x : UInt8} {l : List UInt8} (h : Byt w v (x :: l)) (hl : (x :: l).length = 64) : ∃ ad c, v = .slice (some ad) 64 c ∧ w.cell? ad = some (Cl.u8 x) := by
  obtain ⟨ad, c, rfl, _, _⟩ := Rd.some_ h.rd (by rw [bs_length]; simp)
  have := Rd.cell0 h.rd (by rw [bs_length]; simp)
  rw [bs_length, hl]
  exact ⟨ad, c, rfl, this⟩
set_option maxRecDepth 100000 in
set_option maxHeartbeats 8000000 in
theorem devBegun_any (w : World) : Calls Try.prog 12 #[] w fun e w' => e = .returned (.bool true) ∧ Below w.heap.size w w' := by
  obtain ⟨f1, f2, f3, f4, f5, f6, f7, f8, f9, f10, f11⟩ := bFacts
  obtain ⟨i8, hi8, hz8, hs8, hb8⟩ := info_parts infoU8Z
  have hmk := run_make_n (P := Try.prog) 34 5 i8 (.int .u8 0) Try.underlying34 hi8 hz8 hs8 rfl 64 64 rfl (by rw [hb8]; decide) (by decide)
  obtain ⟨z, hz⟩ : ∃ z, z = (List.replicate 64 (Value.int .u8 0)).toArray := ⟨_, rfl⟩
  rw [← hz] at hmk
  have hO := fun (w : World) => OB.lit' w.heap.size w z Z64 64 (by rw [hz]; simp [Z64, bs, Cl.u8]) (by rw [Z64_length]) (Nat.le_refl _) (by rw [Z64_length]; decide)
  clear hz hi8 hz8 hs8 hb8
  have hset : Z64.set 0 7 = B7 := rfl
  have hZ : Z64 = 0 :: List.replicate 63 0 := rfl
  go_enter Try.func12, Try.ntmps12
  go_wp2_with fail
  refine (dNew _ [2, 1] _ (Rd.new w #[.int .i64 2, .int .i64 1] _ (0, 0) 2 rfl (by simp)) (by unfold okS; decide)).mono ?_
  rintro e w1 ⟨g, rfl, d1, b1⟩
  have b1 := below_new_then b1
  have d1 : DAt w.heap.size w1 g 0 bD0 := d1.lower (le_new _ _)
  have s1 := b1.size
  go_upto_region 5 with fail
  have O := hO w1
  have bz := below_new w1 (.cells z 5)
  generalize w1.alloc (.cells z 5) = wz at *
  obtain ⟨o1, o2, o3, o4, o5⟩ := OB.set O 0 (by rw [Z64_length]; decide) 7
  rw [hset] at o3
  rw [show Cl.u8 7 = Value.int .u8 7 from rfl] at o3 o4
  have bx := below_row bz o4 bz.size (Nat.le_refl _)
  have d2 := d1.below bx
  have b2 := b1.trans (bx.mono s1)
  have y2 := Byt.of_OB o3
  clear O o3 o4 o5 bz bx hO hmk
  go_wp2_with fail
  generalize World.setCell wz ⟨w1.heap.size, 0, none⟩ (.int .u8 7) = w2 at *
  refine (dWrite d2 b2.size (by omega) 1 0 _ _ (y2.lb _)).mono ?_
  rintro e w3 ⟨rfl, d3, c3⟩
  have d3 : DAt w.heap.size w3 g 1 bD1 := d3
  have y3 := y2.keep c3.2
  have b3 := b2.trans c3.1
  rw [f1, B7_length]
  simp only [decide_true, Bool.and_self]
  go_wp2_with fail
  refine (dRead d3 1 0).mono ?_
  rintro e w4 ⟨x, rfl, ox, bx⟩
  rw [f2, if_pos rfl, f3] at *
  have x4 := Byt.of_OB ox
  have d4 := d3.below bx
  have y4 := y3.below bx
  have b4 := b3.trans (bx.mono b3.size)
  clear ox bx
  go_wp2_with fail
  refine (dCrash d4 b4.size (by omega) [] _ (LBL.nil _ _)).mono ?_
  rintro e w5 ⟨rfl, d5, c5⟩
  have d5 : DAt w.heap.size w5 g 1 bD2 := d5
  have y5 := y4.keep c5.2
  have x5 := x4.keep c5.2
  have b5 := b4.trans c5.1
  go_wp2_with fail
  refine (dRead d5 1 0).mono ?_
  rintro e w6 ⟨y, rfl, oy, bx⟩
  rw [f4, if_pos rfl, f5] at *
  have z6 := Byt.of_OB oy
  have d6 := d5.below bx
  have y6 := y5.below bx
  have x6 := x5.below bx
  have b6 := b5.trans (bx.mono b5.size)
  clear oy bx
  go_wp2_with fail
  refine (dWrite d6 b6.size (by omega) 0 1 _ _ (y6.lb _)).mono ?_
  rintro e w7 ⟨rfl, d7, c7⟩
  have d7 : DAt w.heap.size w7 g 2 bD3 := d7
  have z7 := z6.keep c7.2
  have x7 := x6.keep c7.2
  have b7 := b6.trans c7.1
  clear y2 y3 y4 y5 y6
  go_wp2_with fail
  refine (dBarrier d7 b7.size (by omega) 0).mono ?_
  rintro e w8 ⟨rfl, d8, c8⟩
  have d8 : DAt w.heap.size w8 g 3 bD4 := d8
  have z8 := z7.keep c8.2
  have x8 := x7.keep c8.2
  have b8 := b7.trans c8.1
  rw [f6]
  go_wp2_with fail
  refine (dCrash d8 b8.size (by omega) [] _ (LBL.nil _ _)).mono ?_
  rintro e w9 ⟨rfl, d9, c9⟩
  have d9 : DAt w.heap.size w9 g 3 bD5 := d9
  have z9 := z8.keep c9.2
  have x9 := x8.keep c9.2
  have b9 := b8.trans c9.1
  go_wp2_with fail
  refine (dRead d9 0 1).mono ?_
  rintro e w10 ⟨q, rfl, oq, bx⟩
  rw [f7, if_pos rfl, f8] at *
  have q10 := Byt.of_OB oq
  have d10 := d9.below bx
  have z10 := z9.below bx
  have x10 := x9.below bx
  have b10 := b9.trans (bx.mono b9.size)
  clear oq bx x9 x8 x7 x6 x5 x4 z9 z8 z7 z6 d9 d8 d7 d6 d5 d4 d3 d2 d1
  rw [hZ] at z10
  have hB7 : B7 = 7 :: List.replicate 63 0 := rfl
  rw [hB7] at q10 x10
  obtain ⟨ax, cx, rfl, hx⟩ := x10.first rfl
  obtain ⟨ay, cy, rfl, hy⟩ := z10.first rfl
  obtain ⟨aq, cq, rfl, hq⟩ := q10.first rfl
  have hx : w10.cell? ax = some (.int .u8 7) := hx
  have hy : w10.cell? ay = some (.int .u8 0) := hy
  have hq : w10.cell? aq = some (.int .u8 7) := hq
  have f9' : (bD5.1.length : Int) = 2 := by rw [f9]; rfl
  have f12 : decide (bD5.2 = 0) = false := by rw [f11]; decide
  go_wp2_with fail
  refine (dRegions d10).mono ?_
  rintro e wq ⟨rfl, rfl⟩
  rw [f9']
  go_wp2_with fail
  refine (dTrace d10 (by omega) 0).mono ?_
  rintro e w11 ⟨t, rfl, t1, bx⟩
  obtain ⟨at_, ct, rfl, _, _⟩ := t1.len
  rw [f10]
  have d11 := d10.below bx
  have b11 := b10.trans (bx.mono b10.size)
  clear t1 bx
  go_wp2_with fail
  refine (dStopped d11).mono ?_
  rintro e wq ⟨rfl, rfl⟩
  rw [f12]
  go_wp2_with fail
  refine (dCopy d11 (by omega)).mono ?_
  rintro e w12 ⟨g2, rfl, d12, bx⟩
  have b12 := b11.trans (bx.mono b11.size)
  go_wp2_with fail
  go_ret
  exact ⟨rfl, b12⟩
end Go.Proofs.Ytbagicjimfhmeaa.Cl
