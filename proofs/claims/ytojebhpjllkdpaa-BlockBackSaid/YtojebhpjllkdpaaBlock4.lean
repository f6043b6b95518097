/- Seal of what may not be. -/
import Derived.Test.YtojebhpjllkdpaaBlock3
set_option linter.unusedVariables false
set_option linter.unusedSimpArgs false
namespace Go.Proofs.Ytojebhpjllkdpaa.Cl
open Go Go.Proofs Go.RowKit Fl Rely

theorem mayBlk_no {k an : Int} (h : mayBlk k an = false) : k < 0 ∨ (¬ k < 0 ∧ 7 < k) ∨ (¬ k < 0 ∧ ¬ 7 < k ∧ an < 0) ∨ (¬ k < 0 ∧ ¬ 7 < k ∧ ¬ an < 0 ∧ 200 ≤ an) := by
  simp [mayBlk] at h
  omega
set_option maxRecDepth 100000 in
set_option maxHeartbeats 4000000 in
theorem seal_no (label : UInt8) (k an : Int) (b : List UInt8) (w : World) (hno : mayBlk k an = false) (hb56 : b.length = 56) :
    Calls Try.prog 38 #[.int .u8 (label.toNat : Int), .int .i64 an, blkV k b] w fun e w' => e = .returned (.tuple #[.slice none 0 0, .bool false]) ∧ Below w.heap.size w w' := by
  go_enter Try.func38, Try.ntmps38
  go_wp2_with (refine wp_want rfl fun K hK => ?_; refine wp_blk_box rfl rfl hb56 ?_)
  intro w1 B1 b1 s1
  refine hK _ _ ?_
  clear hK K
  go_wp2_with fail
  refine wp_scope_jumps 0 (fun a' w' => (Below w.heap.size w w') ∧ ∃ (z0 z1 z2 z3 z4 z5 z6 z7 z8 z9 z10 z11 z12 z13 z14 z15 z16 z17 z18 z19 z20 z21 z22 z23 z24 z25 z26 z27 z28 z29 z30 z31 z32 z33 z34 z35 z36 z37 z38 z39 z40 z41 z42 z43 : Value), a' = { tmps := #[z0, z1, z2, z3, z4, z5, z6, z7, z8, z9, z10, z11, z12, z13, z14, z15, z16, z17, z18, z19, z20, z21, z22, z23, z24, z25, z26, z27, z28, z29, z30, z31, z32, z33, z34, z35, z36, z37, z38, z39, z40, z41, z42, z43], defers := [] }) (fun _ _ => 0) rfl ?_ ?_
  · have k0 := B1.kind
    rcases mayBlk_no hno with h1 | ⟨h1, h2⟩ | ⟨h1, h2, h3⟩ | ⟨h1, h2, h3, h4⟩
    all_goals
      go_wp2_with fail
      go_step3
      refine ⟨rfl, ?_, _, _, _, _, _, _, _, _, _, _, _, _, _, _, _, _, _, _, _, _, _, _, _, _, _, _, _, _, _, _, _, _, _, _, _, _, _, _, _, _, _, _, _, _, rfl⟩
      exact b1
  · skip
    rintro a' w' ⟨hb, z0, z1, z2, z3, z4, z5, z6, z7, z8, z9, z10, z11, z12, z13, z14, z15, z16, z17, z18, z19, z20, z21, z22, z23, z24, z25, z26, z27, z28, z29, z30, z31, z32, z33, z34, z35, z36, z37, z38, z39, z40, z41, z42, z43, rfl⟩
    go_wp2_with fail
    simp only [Exit.jump]
    go_returns
    exact ⟨rfl, hb⟩
set_option maxRecDepth 100000 in
theorem refSeal_no (label : UInt8) (k an : Int) (b : List UInt8) (w : World) (hno : mayBlk k an = false) (hb56 : b.length = 56) :
    Calls Try.prog 39 #[.int .u8 (label.toNat : Int), .int .i64 an, blkV k b] w fun e w' => e = .returned (.tuple #[.slice none 0 0, .bool false]) ∧ Below w.heap.size w w' := by
  go_enter Try.func39, Try.ntmps39
  go_wp2_with (refine wp_want rfl fun K hK => ?_; refine wp_blk_box rfl rfl hb56 ?_)
  intro w1 B1 b1 s1
  refine hK _ _ ?_
  clear hK K
  have k0 := B1.kind
  rcases mayBlk_no hno with h1 | ⟨h1, h2⟩ | ⟨h1, h2, h3⟩ | ⟨h1, h2, h3, h4⟩
  all_goals
    go_wp2_with fail
    go_returns
    exact ⟨rfl, b1⟩
end Go.Proofs.Ytojebhpjllkdpaa.Cl
