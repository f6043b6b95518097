/- node: begun. -/
import Derived.Test.YtgeiafijibgdhaaNodD
set_option linter.unusedVariables false
set_option linter.unusedSimpArgs false
namespace Go.Proofs.Ytgeiafijibgdhaa.Cl
open Go Go.Proofs Go.RowKit Fl Rely

def nd0 : Nd := ⟨1, 1, 9, 5, -1, -1, -1, -1, []⟩
theorem nd0_ok : NdOk nd0 := ⟨by decide, by unfold I64 nd0; decide, by unfold I64 nd0; decide, by unfold I64 nd0; decide, by unfold I64 nd0; decide, by unfold I64 nd0; decide, by unfold I64 nd0; decide, by unfold I64 nd0; decide, by decide⟩
theorem nd0_may : mayN 1 nd0 := by decide +kernel
theorem nd0_may2 : ¬ mayN 2 nd0 := by decide +kernel
theorem nd0_zero : ¬ goodN 1 Z56 := by decide +kernel
theorem guardNd : Try.prog.eqGuardType Try.prog.depth 25 = false := by kernel_rfl
theorem guard_nd (n m : Nd) : ∀ x y w, (eqGuard .eql 25 x y (.agg (ndA n)) (.agg (ndA m))).run Try.prog w = .ok () w := fun x y w => run_eqGuard_agg (P := Try.prog) w .eql _ x y _ _ guardNd
set_option maxRecDepth 100000 in
set_option maxHeartbeats 8000000 in
theorem ndBegun_any (w : World) : Calls Try.prog 15 #[] w fun e w' => e = .returned (.bool true) ∧ Below w.heap.size w w' := by
  have hm : mayN 1 nd0 := nd0_may
  have ok := nd0_ok
  have hP := fun w => ndPut_any 1 nd0 w ok
  have hT := fun w => ndTake_any 1 (ndBody 1 nd0) w ndBody_length
  have hZ := fun w => ndTake_any 1 Z56 w Z56_length
  have h1 := fun w => ndMay_any 1 nd0 w ok
  have h2 := fun w => ndMay_any 2 nd0 w ok
  rw [ndO_own ok hm] at hT
  rw [ndO_no nd0_zero] at hZ
  rw [decide_eq_true hm] at hP h1
  rw [decide_eq_false nd0_may2] at h2
  rw [show ndK 1 nd0 = 1 by unfold ndK; rw [if_pos hm]] at hP
  have hl := ndBody_length (kind := 1) (n := nd0)
  have q1 := eq_nd true nd0 nd0 (decide_eq_true rfl)
  have q0 := guard_nd nd0 nd0
  clear hm ok
  generalize ndBody 1 nd0 = bb at *
  go_enter Try.func15, Try.ntmps15
  go_wp2_with (refine wp_want rfl fun K hK => ?_; first | refine wp_rw_alloc (P := Try.prog) (t := 25) (ndV zNd) infoNd_zero rfl ?_)
  intro w1 Y1 c1 s1
  refine hK _ _ ?_
  clear hK K
  go_wp2_with (refine wp_want rfl fun K hK => ?_; first | refine wp_rw_store (P := Try.prog) (cs := ndA nd0) Y1 infoNd_size rfl (ndA_all _) rfl rfl rfl ?_)
  intro w2 Z2 g2 z2
  refine hK _ _ ?_
  clear hK K
  have d2 := below_row c1 g2 c1.size (Nat.le_refl _)
  have W := d2
  have A := Z2
  clear Y1 c1 s1 Z2 g2 z2 d2
  go_wp2_with (refine wp_want rfl fun K hK => ?_; first | (refine wp_rw_load (P := Try.prog) A Try.underlying25 rfl infoNd_size rfl rfl ?_; refine hK _ _ ?_; clear hK K))
  refine (hP _).mono ?_
  rintro e w3 ⟨rfl, b3⟩
  have A := RowAt.later A b3
  have W := W.trans (b3.mono W.size)
  clear b3
  have nnB := W.size
  go_wp2_with (refine wp_want rfl fun K hK => ?_; first | (refine wp_rw_load (P := Try.prog) A Try.underlying25 rfl infoNd_size rfl rfl ?_; refine hK _ _ ?_; clear hK K) | refine wp_blk_alloc rfl ?_)
  intro w4 Y4 c4 s4
  refine hK _ _ ?_
  clear hK K
  go_wp2_with (refine wp_want rfl fun K hK => ?_; first | (refine wp_rw_load (P := Try.prog) A Try.underlying25 rfl infoNd_size rfl rfl ?_; refine hK _ _ ?_; clear hK K) | refine wp_blk_store rfl rfl rfl hl Y4 ?_)
  intro w5 Z5 g5 z5
  refine hK _ _ ?_
  clear hK K
  have d5 := below_row c4 g5 c4.size (Nat.le_refl _)
  have lBA := RowAt.lt A
  have A := RowAt.later A d5
  have W := W.trans (d5.mono W.size)
  have B := Z5
  clear Y4 c4 s4 Z5 g5 z5 d5
  go_wp2_with (refine wp_want rfl fun K hK => ?_; first | (refine wp_rw_load (P := Try.prog) A Try.underlying25 rfl infoNd_size rfl rfl ?_; refine hK _ _ ?_; clear hK K) | (refine wp_blk_load rfl rfl B ?_; refine hK _ _ ?_; clear hK K))
  refine (hT _).mono ?_
  rintro e w6 ⟨rfl, b6⟩
  have A := RowAt.later A b6
  have B := B.later b6
  have W := W.trans (b6.mono W.size)
  clear b6
  have nnC := W.size
  go_wp2_with (refine wp_want rfl fun K hK => ?_; first | (refine wp_rw_load (P := Try.prog) A Try.underlying25 rfl infoNd_size rfl rfl ?_; refine hK _ _ ?_; clear hK K) | (refine wp_blk_load rfl rfl B ?_; refine hK _ _ ?_; clear hK K) | refine wp_rw_alloc (P := Try.prog) (t := 25) (ndV zNd) infoNd_zero rfl ?_)
  intro w7 Y7 c7 s7
  refine hK _ _ ?_
  clear hK K
  go_wp2_with (refine wp_want rfl fun K hK => ?_; first | (refine wp_rw_load (P := Try.prog) A Try.underlying25 rfl infoNd_size rfl rfl ?_; refine hK _ _ ?_; clear hK K) | (refine wp_blk_load rfl rfl B ?_; refine hK _ _ ?_; clear hK K) | refine wp_rw_store (P := Try.prog) (cs := ndA nd0) Y7 infoNd_size rfl (ndA_all _) rfl rfl rfl ?_)
  intro w8 Z8 g8 z8
  refine hK _ _ ?_
  clear hK K
  have d8 := below_row c7 g8 c7.size (Nat.le_refl _)
  have lCA := RowAt.lt A
  have lCB := B.lt
  have A := RowAt.later A d8
  have B := B.later d8
  have W := W.trans (d8.mono W.size)
  have C := Z8
  clear Y7 c7 s7 Z8 g8 z8 d8
  go_wp2_with (refine wp_want rfl fun K hK => ?_; first | (refine wp_rw_load (P := Try.prog) A Try.underlying25 rfl infoNd_size rfl rfl ?_; refine hK _ _ ?_; clear hK K) | (refine wp_blk_load rfl rfl B ?_; refine hK _ _ ?_; clear hK K) | (refine wp_rw_load (P := Try.prog) C Try.underlying25 rfl infoNd_size rfl rfl ?_; refine hK _ _ ?_; clear hK K) | (refine wp_blk_build rfl rfl ?_; refine hK _ _ ?_; clear hK K))
  refine (hZ _).mono ?_
  rintro e w9 ⟨rfl, b9⟩
  have A := RowAt.later A b9
  have B := B.later b9
  have C := RowAt.later C b9
  have W := W.trans (b9.mono W.size)
  clear b9
  have nnD := W.size
  go_wp2_with (refine wp_want rfl fun K hK => ?_; first | (refine wp_rw_load (P := Try.prog) A Try.underlying25 rfl infoNd_size rfl rfl ?_; refine hK _ _ ?_; clear hK K) | (refine wp_blk_load rfl rfl B ?_; refine hK _ _ ?_; clear hK K) | (refine wp_rw_load (P := Try.prog) C Try.underlying25 rfl infoNd_size rfl rfl ?_; refine hK _ _ ?_; clear hK K) | refine wp_rw_alloc (P := Try.prog) (t := 25) (ndV zNd) infoNd_zero rfl ?_)
  intro w10 Y10 c10 s10
  refine hK _ _ ?_
  clear hK K
  go_wp2_with (refine wp_want rfl fun K hK => ?_; first | (refine wp_rw_load (P := Try.prog) A Try.underlying25 rfl infoNd_size rfl rfl ?_; refine hK _ _ ?_; clear hK K) | (refine wp_blk_load rfl rfl B ?_; refine hK _ _ ?_; clear hK K) | (refine wp_rw_load (P := Try.prog) C Try.underlying25 rfl infoNd_size rfl rfl ?_; refine hK _ _ ?_; clear hK K) | refine wp_rw_store (P := Try.prog) (cs := ndA zNd) Y10 infoNd_size rfl (ndA_all _) rfl rfl rfl ?_)
  intro w11 Z11 g11 z11
  refine hK _ _ ?_
  clear hK K
  have d11 := below_row c10 g11 c10.size (Nat.le_refl _)
  have lDA := RowAt.lt A
  have lDB := B.lt
  have lDC := RowAt.lt C
  have A := RowAt.later A d11
  have B := B.later d11
  have C := RowAt.later C d11
  have W := W.trans (d11.mono W.size)
  have D := Z11
  clear Y10 c10 s10 Z11 g11 z11 d11
  have kk := B.kind
  go_wp2_with (refine wp_want rfl fun K hK => ?_; first | (refine wp_rw_load (P := Try.prog) A Try.underlying25 rfl infoNd_size rfl rfl ?_; refine hK _ _ ?_; clear hK K) | (refine wp_blk_load rfl rfl B ?_; refine hK _ _ ?_; clear hK K) | (refine wp_rw_load (P := Try.prog) C Try.underlying25 rfl infoNd_size rfl rfl ?_; refine hK _ _ ?_; clear hK K) | (refine wp_rw_load (P := Try.prog) D Try.underlying25 rfl infoNd_size rfl rfl ?_; refine hK _ _ ?_; clear hK K))
  refine (h1 _).mono ?_
  rintro e w12 ⟨rfl, b12⟩
  have A := RowAt.later A b12
  have B := B.later b12
  have C := RowAt.later C b12
  have D := RowAt.later D b12
  have W := W.trans (b12.mono W.size)
  clear b12
  go_wp2_with (refine wp_want rfl fun K hK => ?_; first | (refine wp_rw_load (P := Try.prog) A Try.underlying25 rfl infoNd_size rfl rfl ?_; refine hK _ _ ?_; clear hK K) | (refine wp_blk_load rfl rfl B ?_; refine hK _ _ ?_; clear hK K) | (refine wp_rw_load (P := Try.prog) C Try.underlying25 rfl infoNd_size rfl rfl ?_; refine hK _ _ ?_; clear hK K) | (refine wp_rw_load (P := Try.prog) D Try.underlying25 rfl infoNd_size rfl rfl ?_; refine hK _ _ ?_; clear hK K))
  refine (h2 _).mono ?_
  rintro e w13 ⟨rfl, b13⟩
  have A := RowAt.later A b13
  have B := B.later b13
  have C := RowAt.later C b13
  have D := RowAt.later D b13
  have W := W.trans (b13.mono W.size)
  clear b13
  go_wp2_with (refine wp_want rfl fun K hK => ?_; first | (refine wp_rw_load (P := Try.prog) A Try.underlying25 rfl infoNd_size rfl rfl ?_; refine hK _ _ ?_; clear hK K) | (refine wp_blk_load rfl rfl B ?_; refine hK _ _ ?_; clear hK K) | (refine wp_rw_load (P := Try.prog) C Try.underlying25 rfl infoNd_size rfl rfl ?_; refine hK _ _ ?_; clear hK K) | (refine wp_rw_load (P := Try.prog) D Try.underlying25 rfl infoNd_size rfl rfl ?_; refine hK _ _ ?_; clear hK K))
  go_ret
  exact ⟨rfl, W⟩
end Go.Proofs.Ytgeiafijibgdhaa.Cl
