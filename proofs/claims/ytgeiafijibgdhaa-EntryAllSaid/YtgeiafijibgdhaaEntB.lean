/- entry: begun. -/
import Derived.Test.YtgeiafijibgdhaaEnt5
set_option linter.unusedVariables false
set_option linter.unusedSimpArgs false
namespace Go.Proofs.Ytgeiafijibgdhaa.Cl
open Go Go.Proofs Go.RowKit Fl Rely

def n0 : Nm := ⟨-1, 0, 0, [97], 3, 4⟩
theorem guardNm : Try.prog.eqGuardType Try.prog.depth 43 = false := by kernel_rfl
theorem wp_nm_eqlR (r : Bool) {n m : Nm} (hr : decide (n = m) = r) {K : Act → World → Prop} {Q : Exit → Act → World → Prop} {o : Oper} {a : Act} {w : World} {x y : Operand} {t : TypeId} (hop : o.op = .binOp .eql 43 x y t) (hx : a.eval x = nmV n) (hy : a.eval y = nmV m)
    (h : K (a.put o.dst (.bool r)) w) : o.wp Try.prog a w K Q := by
  subst hr
  have e := eq_nm n m w
  unfold Oper.wp execOp
  unfold nmV at *
  simp only [hop, hx, hy, Sem.run_bind, run_eqGuard_agg (P := Try.prog) w .eql 43 x y _ _ guardNm, e, Result.andThen_ok, Sem.run_pure]
  exact h
set_option maxRecDepth 100000 in
set_option maxHeartbeats 8000000 in
theorem entBegun_any (w : World) : Calls Try.prog 22 #[] w fun e w' => e = .returned (.bool true) ∧ Below w.heap.size w w' := by
  have hm : mayNm n0 = true := by decide +kernel
  have ok : NmOk n0 := ⟨by decide, by decide, by decide, by decide, by decide, by decide⟩
  have hP := fun w => entPut_any n0 w ok
  have hT := fun w => entTake_any 6 (entBody n0) w (entBody_length n0)
  have hZ := fun w => entTake_any 6 Z56 w Z56_length
  have hM := fun w => entMay_any n0 w ok
  have h1 := fun w => mayName_any [97] w (by decide)
  have h2 := fun w => mayName_any [46, 46] w (by decide)
  rw [show mayName [97] = true by decide +kernel] at h1
  rw [show mayName [46, 46] = false by decide +kernel] at h2
  have hg := goodE_own ok hm
  have hz : goodE 6 Z56 = false := by decide +kernel
  have hr := (readNm_own ok hm).1
  have hl := entBody_length n0
  unfold nmO at hT hZ
  rw [hg, hr] at hT
  rw [hz] at hZ
  simp only [if_true, Bool.false_eq_true, if_false] at hT hZ
  rw [hm, show entK n0 = 6 by unfold entK; rw [hm]; rfl] at hP
  rw [hm] at hM
  have he : decide (n0 = n0) = true := decide_eq_true rfl
  have hq : nmA n0 = #[.int .i64 (-1), .int .i64 0, .int .u32 0, str [97], .int .i64 3, .int .u32 4] := rfl
  clear hg hz hr hm ok
  generalize entBody n0 = bb at *
  go_enter Try.func22, Try.ntmps22
  go_wp2_with fail
  refine (refRoot_any _).mono ?_
  rintro e w1 ⟨rfl, b1⟩
  have W := b1
  clear b1
  have nnA := W.size
  go_wp2_with (refine wp_want rfl fun K hK => ?_; first | refine wp_rw_alloc (P := Try.prog) (t := 43) (nmV zNm) infoNm_zero rfl ?_)
  intro w2 Y2 c2 s2
  refine hK _ _ ?_
  clear hK K
  go_wp2_with (refine wp_want rfl fun K hK => ?_; first | refine wp_rw_store (P := Try.prog) (cs := nmA n0) Y2 infoNm_size rfl (nmA_all _) rfl rfl rfl ?_)
  intro w3 Z3 g3 z3
  refine hK _ _ ?_
  clear hK K
  have d3 := below_row c2 g3 c2.size (Nat.le_refl _)
  have W := W.trans (d3.mono W.size)
  have A := Z3
  clear Y2 c2 s2 Z3 g3 z3 d3
  go_wp2_with (refine wp_want rfl fun K hK => ?_; first | (refine wp_rw_load (P := Try.prog) A Try.underlying43 rfl infoNm_size rfl rfl ?_; refine hK _ _ ?_; clear hK K))
  refine (hP _).mono ?_
  rintro e w4 ⟨rfl, b4⟩
  have A := RowAt.later A b4
  have W := W.trans (b4.mono W.size)
  clear b4
  have nnB := W.size
  go_wp2_with (refine wp_want rfl fun K hK => ?_; first | (refine wp_rw_load (P := Try.prog) A Try.underlying43 rfl infoNm_size rfl rfl ?_; refine hK _ _ ?_; clear hK K) | refine wp_blk_alloc rfl ?_)
  intro w5 Y5 c5 s5
  refine hK _ _ ?_
  clear hK K
  go_wp2_with (refine wp_want rfl fun K hK => ?_; first | (refine wp_rw_load (P := Try.prog) A Try.underlying43 rfl infoNm_size rfl rfl ?_; refine hK _ _ ?_; clear hK K) | refine wp_blk_store rfl rfl rfl hl Y5 ?_)
  intro w6 Z6 g6 z6
  refine hK _ _ ?_
  clear hK K
  have d6 := below_row c5 g6 c5.size (Nat.le_refl _)
  have lBA := RowAt.lt A
  have A := RowAt.later A d6
  have W := W.trans (d6.mono W.size)
  have B := Z6
  clear Y5 c5 s5 Z6 g6 z6 d6
  go_wp2_with (refine wp_want rfl fun K hK => ?_; first | (refine wp_rw_load (P := Try.prog) A Try.underlying43 rfl infoNm_size rfl rfl ?_; refine hK _ _ ?_; clear hK K) | (refine wp_blk_load rfl rfl B ?_; refine hK _ _ ?_; clear hK K))
  refine (hT _).mono ?_
  rintro e w7 ⟨rfl, b7⟩
  have A := RowAt.later A b7
  have B := B.later b7
  have W := W.trans (b7.mono W.size)
  clear b7
  have nnC := W.size
  go_wp2_with (refine wp_want rfl fun K hK => ?_; first | (refine wp_rw_load (P := Try.prog) A Try.underlying43 rfl infoNm_size rfl rfl ?_; refine hK _ _ ?_; clear hK K) | (refine wp_blk_load rfl rfl B ?_; refine hK _ _ ?_; clear hK K) | refine wp_rw_alloc (P := Try.prog) (t := 43) (nmV zNm) infoNm_zero rfl ?_)
  intro w8 Y8 c8 s8
  refine hK _ _ ?_
  clear hK K
  go_wp2_with (refine wp_want rfl fun K hK => ?_; first | (refine wp_rw_load (P := Try.prog) A Try.underlying43 rfl infoNm_size rfl rfl ?_; refine hK _ _ ?_; clear hK K) | (refine wp_blk_load rfl rfl B ?_; refine hK _ _ ?_; clear hK K) | refine wp_rw_store (P := Try.prog) (cs := nmA n0) Y8 infoNm_size rfl (nmA_all _) rfl rfl rfl ?_)
  intro w9 Z9 g9 z9
  refine hK _ _ ?_
  clear hK K
  have d9 := below_row c8 g9 c8.size (Nat.le_refl _)
  have lCA := RowAt.lt A
  have lCB := B.lt
  have A := RowAt.later A d9
  have B := B.later d9
  have W := W.trans (d9.mono W.size)
  have C := Z9
  clear Y8 c8 s8 Z9 g9 z9 d9
  go_wp2_with (refine wp_want rfl fun K hK => ?_; first | (refine wp_rw_load (P := Try.prog) A Try.underlying43 rfl infoNm_size rfl rfl ?_; refine hK _ _ ?_; clear hK K) | (refine wp_blk_load rfl rfl B ?_; refine hK _ _ ?_; clear hK K) | (refine wp_rw_load (P := Try.prog) C Try.underlying43 rfl infoNm_size rfl rfl ?_; refine hK _ _ ?_; clear hK K) | (refine wp_blk_build rfl rfl ?_; refine hK _ _ ?_; clear hK K))
  refine (hZ _).mono ?_
  rintro e w10 ⟨rfl, b10⟩
  have A := RowAt.later A b10
  have B := B.later b10
  have C := RowAt.later C b10
  have W := W.trans (b10.mono W.size)
  clear b10
  have nnD := W.size
  go_wp2_with (refine wp_want rfl fun K hK => ?_; first | (refine wp_rw_load (P := Try.prog) A Try.underlying43 rfl infoNm_size rfl rfl ?_; refine hK _ _ ?_; clear hK K) | (refine wp_blk_load rfl rfl B ?_; refine hK _ _ ?_; clear hK K) | (refine wp_rw_load (P := Try.prog) C Try.underlying43 rfl infoNm_size rfl rfl ?_; refine hK _ _ ?_; clear hK K) | refine wp_rw_alloc (P := Try.prog) (t := 43) (nmV zNm) infoNm_zero rfl ?_)
  intro w11 Y11 c11 s11
  refine hK _ _ ?_
  clear hK K
  go_wp2_with (refine wp_want rfl fun K hK => ?_; first | (refine wp_rw_load (P := Try.prog) A Try.underlying43 rfl infoNm_size rfl rfl ?_; refine hK _ _ ?_; clear hK K) | (refine wp_blk_load rfl rfl B ?_; refine hK _ _ ?_; clear hK K) | (refine wp_rw_load (P := Try.prog) C Try.underlying43 rfl infoNm_size rfl rfl ?_; refine hK _ _ ?_; clear hK K) | refine wp_rw_store (P := Try.prog) (cs := nmA zNm) Y11 infoNm_size rfl (nmA_all _) rfl rfl rfl ?_)
  intro w12 Z12 g12 z12
  refine hK _ _ ?_
  clear hK K
  have d12 := below_row c11 g12 c11.size (Nat.le_refl _)
  have lDA := RowAt.lt A
  have lDB := B.lt
  have lDC := RowAt.lt C
  have A := RowAt.later A d12
  have B := B.later d12
  have C := RowAt.later C d12
  have W := W.trans (d12.mono W.size)
  have D := Z12
  clear Y11 c11 s11 Z12 g12 z12 d12
  have kk := B.kind
  go_wp2_with (refine wp_want rfl fun K hK => ?_; first | (refine wp_rw_load (P := Try.prog) A Try.underlying43 rfl infoNm_size rfl rfl ?_; refine hK _ _ ?_; clear hK K) | (refine wp_blk_load rfl rfl B ?_; refine hK _ _ ?_; clear hK K) | (refine wp_rw_load (P := Try.prog) C Try.underlying43 rfl infoNm_size rfl rfl ?_; refine hK _ _ ?_; clear hK K) | (refine wp_rw_load (P := Try.prog) D Try.underlying43 rfl infoNm_size rfl rfl ?_; refine hK _ _ ?_; clear hK K) | (refine wp_nm_eqlR true he rfl rfl rfl ?_; refine hK _ _ ?_; clear hK K))
  refine (hM _).mono ?_
  rintro e w13 ⟨rfl, b13⟩
  have A := RowAt.later A b13
  have B := B.later b13
  have C := RowAt.later C b13
  have D := RowAt.later D b13
  have W := W.trans (b13.mono W.size)
  clear b13
  go_wp2_with (refine wp_want rfl fun K hK => ?_; first | (refine wp_rw_load (P := Try.prog) A Try.underlying43 rfl infoNm_size rfl rfl ?_; refine hK _ _ ?_; clear hK K) | (refine wp_blk_load rfl rfl B ?_; refine hK _ _ ?_; clear hK K) | (refine wp_rw_load (P := Try.prog) C Try.underlying43 rfl infoNm_size rfl rfl ?_; refine hK _ _ ?_; clear hK K) | (refine wp_rw_load (P := Try.prog) D Try.underlying43 rfl infoNm_size rfl rfl ?_; refine hK _ _ ?_; clear hK K) | (refine wp_nm_eqlR true he rfl rfl rfl ?_; refine hK _ _ ?_; clear hK K))
  refine (h1 _).mono ?_
  rintro e w14 ⟨rfl, b14⟩
  have A := RowAt.later A b14
  have B := B.later b14
  have C := RowAt.later C b14
  have D := RowAt.later D b14
  have W := W.trans (b14.mono W.size)
  clear b14
  go_wp2_with (refine wp_want rfl fun K hK => ?_; first | (refine wp_rw_load (P := Try.prog) A Try.underlying43 rfl infoNm_size rfl rfl ?_; refine hK _ _ ?_; clear hK K) | (refine wp_blk_load rfl rfl B ?_; refine hK _ _ ?_; clear hK K) | (refine wp_rw_load (P := Try.prog) C Try.underlying43 rfl infoNm_size rfl rfl ?_; refine hK _ _ ?_; clear hK K) | (refine wp_rw_load (P := Try.prog) D Try.underlying43 rfl infoNm_size rfl rfl ?_; refine hK _ _ ?_; clear hK K) | (refine wp_nm_eqlR true he rfl rfl rfl ?_; refine hK _ _ ?_; clear hK K))
  refine (h2 _).mono ?_
  rintro e w15 ⟨rfl, b15⟩
  have A := RowAt.later A b15
  have B := B.later b15
  have C := RowAt.later C b15
  have D := RowAt.later D b15
  have W := W.trans (b15.mono W.size)
  clear b15
  go_wp2_with (refine wp_want rfl fun K hK => ?_; first | (refine wp_rw_load (P := Try.prog) A Try.underlying43 rfl infoNm_size rfl rfl ?_; refine hK _ _ ?_; clear hK K) | (refine wp_blk_load rfl rfl B ?_; refine hK _ _ ?_; clear hK K) | (refine wp_rw_load (P := Try.prog) C Try.underlying43 rfl infoNm_size rfl rfl ?_; refine hK _ _ ?_; clear hK K) | (refine wp_rw_load (P := Try.prog) D Try.underlying43 rfl infoNm_size rfl rfl ?_; refine hK _ _ ?_; clear hK K) | (refine wp_nm_eqlR true he rfl rfl rfl ?_; refine hK _ _ ?_; clear hK K))
  go_ret
  exact ⟨rfl, W⟩
end Go.Proofs.Ytgeiafijibgdhaa.Cl
