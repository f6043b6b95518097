/- begun of the labels' law (printed by mklab7.py). -/
import Derived.Test.YtibpipppabommaaLab6
set_option linter.unusedVariables false
set_option linter.unusedSimpArgs false
namespace Go.Proofs.Ytibpipppabommaa.Cl
open Go Go.Proofs Go.RowKit Fl Rely

theorem ne_lv (a b a' b' : Int) (w : World) : (binOp .neq 63 (lv a b) (lv a' b')).run Try.prog w = .ok (.bool (!decide (a = a' ∧ b = b'))) w := by
  by_cases h1 : a = a' <;> by_cases h2 : b = b' <;> simp [go_sem, h1, h2]

set_option maxRecDepth 100000 in
set_option maxHeartbeats 2000000 in
theorem labBegun_any (w : World) : Calls Try.prog 31 #[] w fun e w' => e = .returned (.bool true) ∧ Below w.heap.size w w' := by
  have c1 : ∀ w, Calls Try.prog 36 #[lv (2) (3)] w fun e w' => e = .returned (.bool true) ∧ Below w.heap.size w w' := fun w => by
    have h := labMay_any (2) (3) w
    rwa [show labOK (2) (3) = true from by decide +kernel] at h
  have c2 : ∀ w, Calls Try.prog 36 #[lv (9) (0)] w fun e w' => e = .returned (.bool false) ∧ Below w.heap.size w w' := fun w => by
    have h := labMay_any (9) (0) w
    rwa [show labOK (9) (0) = false from by decide +kernel] at h
  have c3 : ∀ w, Calls Try.prog 38 #[lv (2) (3), lv (1) (5)] w fun e w' => e = .returned (.bool false) ∧ Below w.heap.size w w' := fun w => by
    have h := above_any (2) (3) (1) (5) w
    rwa [show aboveB (2) (3) (1) (5) = false from by decide +kernel] at h
  have c4 : ∀ w, Calls Try.prog 40 #[lv (2) (3), lv (1) (5)] w fun e w' => e = .returned (lv (2) (7)) ∧ Below w.heap.size w w' := fun w => by
    have h := join_any (2) (3) (1) (5) w
    rwa [show jL (2) (3) (1) (5) = 2 from by decide, show jC (2) (3) (1) (5) = 7 from by decide] at h
  have c5 : ∀ w, Calls Try.prog 38 #[lv (2) (7), lv (1) (5)] w fun e w' => e = .returned (.bool true) ∧ Below w.heap.size w w' := fun w => by
    have h := above_any (2) (7) (1) (5) w
    rwa [show aboveB (2) (7) (1) (5) = true from by decide +kernel] at h
  have c6 : ∀ w, Calls Try.prog 42 #[lv (2) (3), lv (1) (5)] w fun e w' => e = .returned (lv (1) (1)) ∧ Below w.heap.size w w' := fun w => by
    have h := meet_any (2) (3) (1) (5) w
    rwa [show mL (2) (3) (1) (5) = 1 from by decide, show mC (2) (3) (1) (5) = 1 from by decide] at h
  have c7 : ∀ w, Calls Try.prog 44 #[lv (1) (5), lv (2) (3)] w fun e w' => e = .returned (.bool true) ∧ Below w.heap.size w w' := fun w => by
    have h := less_any (1) (5) (2) (3) w
    rwa [show lessB (1) (5) (2) (3) = true from by decide +kernel] at h
  have q1 : ∀ w, (binOp .eql 63 (lv 1 1) (lv 1 1)).run Try.prog w = .ok (.bool true) w := fun w => by rw [eq_lv]; rfl
  have q2 : ∀ w, (binOp .eql 63 (lv 2 3) (lv 2 3)).run Try.prog w = .ok (.bool true) w := fun w => by rw [eq_lv]; rfl
  go_enter Try.func31, Try.ntmps31
  go_wp2_with (refine wp_want rfl fun K hK => ?_; refine wp_rw_alloc (P := Try.prog) (t := 63) (lv 0 0) zeroLab rfl ?_)
  intro w1 R1 b1 s1
  refine hK _ _ ?_
  clear hK K
  have W := b1
  have nb1 := b1.size
  have A := R1
  clear R1 b1
  go_wp2_with (refine wp_want rfl fun K hK => ?_; refine wp_rw_alloc (P := Try.prog) (t := 63) (lv 0 0) zeroLab rfl ?_)
  intro w2 R2 b2 s2
  refine hK _ _ ?_
  clear hK K
  have A := A.later b2
  have W := W.trans (b2.mono W.size)
  have nb2 := b2.size
  have B := R2
  clear R2 b2
  go_wp2_with (refine wp_want rfl fun K hK => ?_; refine wp_lab_store A rfl rfl rfl ?_)
  intro w3 R3 g3 z3
  refine hK _ _ ?_
  clear hK K
  have B := B.grown g3 (by omega)
  have W := below_row W g3 (by omega) (by omega)
  have A := R3
  clear R3 g3
  go_wp2_with (refine wp_want rfl fun K hK => ?_; refine wp_lab_store B rfl rfl rfl ?_)
  intro w4 R4 g4 z4
  refine hK _ _ ?_
  clear hK K
  have A := A.grown g4 (by omega)
  have W := below_row W g4 (by omega) (by omega)
  have B := R4
  clear R4 g4
  have cA0 := A.cell 0 (.int .i64 (2)) rfl
  have cA1 := A.cell 1 (.int .i64 (3)) rfl
  have cB0 := B.cell 0 (.int .i64 (1)) rfl
  have cB1 := B.cell 1 (.int .i64 (5)) rfl
  go_wp2_with fail
  clear cA0 cA1 cB0 cB1
  refine (labPut_any 2 3 _).mono ?_
  rw [show putLV 2 3 = .tuple #[.int .u8 35, .bool true] from rfl]
  rintro e w5 ⟨rfl, h5⟩
  have A := A.later h5
  have B := B.later h5
  have W := W.trans (h5.mono W.size)
  have nh5 := h5.size
  clear h5
  have cA0 := A.cell 0 (.int .i64 (2)) rfl
  have cA1 := A.cell 1 (.int .i64 (3)) rfl
  have cB0 := B.cell 0 (.int .i64 (1)) rfl
  have cB1 := B.cell 1 (.int .i64 (5)) rfl
  go_wp2_with fail
  clear cA0 cA1 cB0 cB1
  refine (labTake_any 35 (by decide) _).mono ?_
  rw [show takeLV 35 = .tuple #[lv 2 3, .bool true] from rfl]
  rintro e w6 ⟨rfl, h6⟩
  have A := A.later h6
  have B := B.later h6
  have W := W.trans (h6.mono W.size)
  have nh6 := h6.size
  clear h6
  go_wp2_with (refine wp_want rfl fun K hK => ?_; refine wp_rw_alloc (P := Try.prog) (t := 63) (lv 0 0) zeroLab rfl ?_)
  intro w7 R7 b7 s7
  refine hK _ _ ?_
  clear hK K
  have A := A.later b7
  have B := B.later b7
  have W := W.trans (b7.mono W.size)
  have nb7 := b7.size
  have C := R7
  clear R7 b7
  go_wp2_with (refine wp_want rfl fun K hK => ?_; refine wp_lab_store C rfl rfl rfl ?_)
  intro w8 R8 g8 z8
  refine hK _ _ ?_
  clear hK K
  have A := A.grown g8 (by omega)
  have B := B.grown g8 (by omega)
  have W := below_row W g8 (by omega) (by omega)
  have C := R8
  clear R8 g8
  have cA0 := A.cell 0 (.int .i64 (2)) rfl
  have cA1 := A.cell 1 (.int .i64 (3)) rfl
  have cB0 := B.cell 0 (.int .i64 (1)) rfl
  have cB1 := B.cell 1 (.int .i64 (5)) rfl
  have cC0 := C.cell 0 (.int .i64 (2)) rfl
  have cC1 := C.cell 1 (.int .i64 (3)) rfl
  go_wp2_with fail
  clear cA0 cA1 cB0 cB1 cC0 cC1
  refine (labTake_any 64 (by decide) _).mono ?_
  rw [show takeLV 64 = .tuple #[lv 0 0, .bool false] from rfl]
  rintro e w9 ⟨rfl, h9⟩
  have A := A.later h9
  have B := B.later h9
  have C := C.later h9
  have W := W.trans (h9.mono W.size)
  have nh9 := h9.size
  clear h9
  go_wp2_with (refine wp_want rfl fun K hK => ?_; refine wp_rw_alloc (P := Try.prog) (t := 63) (lv 0 0) zeroLab rfl ?_)
  intro w10 R10 b10 s10
  refine hK _ _ ?_
  clear hK K
  have A := A.later b10
  have B := B.later b10
  have C := C.later b10
  have W := W.trans (b10.mono W.size)
  have nb10 := b10.size
  have D := R10
  clear R10 b10
  go_wp2_with (refine wp_want rfl fun K hK => ?_; refine wp_lab_store D rfl rfl rfl ?_)
  intro w11 R11 g11 z11
  refine hK _ _ ?_
  clear hK K
  have A := A.grown g11 (by omega)
  have B := B.grown g11 (by omega)
  have C := C.grown g11 (by omega)
  have W := below_row W g11 (by omega) (by omega)
  have D := R11
  clear R11 g11
  have cA0 := A.cell 0 (.int .i64 (2)) rfl
  have cA1 := A.cell 1 (.int .i64 (3)) rfl
  have cB0 := B.cell 0 (.int .i64 (1)) rfl
  have cB1 := B.cell 1 (.int .i64 (5)) rfl
  have cC0 := C.cell 0 (.int .i64 (2)) rfl
  have cC1 := C.cell 1 (.int .i64 (3)) rfl
  have cD0 := D.cell 0 (.int .i64 (0)) rfl
  have cD1 := D.cell 1 (.int .i64 (0)) rfl
  go_wp2_with fail
  clear cA0 cA1 cB0 cB1 cC0 cC1 cD0 cD1
  have cA0 := A.drew.at_ 0 (.int .i64 (2)) rfl
  have cA1 := A.drew.at_ 1 (.int .i64 (3)) rfl
  have cB0 := B.drew.at_ 0 (.int .i64 (1)) rfl
  have cB1 := B.drew.at_ 1 (.int .i64 (5)) rfl
  have cC0 := C.drew.at_ 0 (.int .i64 (2)) rfl
  have cC1 := C.drew.at_ 1 (.int .i64 (3)) rfl
  have cD0 := D.drew.at_ 0 (.int .i64 (0)) rfl
  have cD1 := D.drew.at_ 1 (.int .i64 (0)) rfl
  have W := W.drew
  have A := A.drew
  have B := B.drew
  have C := C.drew
  have D := D.drew
  refine wp_region_rely 52 (by kernel_rfl) (by kernel_rfl) ?_
  simp only [List.take_succ_cons, List.take_zero]
  generalize World.drew w11 = w12d at *
  repeat (first
    | (refine wpR_step0 ?_ ?_ (fun K hK => ?_); rfl; rfl; go_simp; refine hK _ ?_; clear hK K)
    | (refine wpR_step0 ?_ ?_ (fun K hK => ?_); rfl; rfl; go_simp; apply Exists.intro; refine ⟨fun x => ?_, hK _ ?_⟩; (first | (go_at_call 36; first | (with_reducible exact c1 _) | (with_reducible exact c2 _)) | (go_at_call 38; first | (with_reducible exact c3 _) | (with_reducible exact c5 _)) | (go_at_call 40; first | (with_reducible exact c4 _)) | (go_at_call 42; first | (with_reducible exact c6 _)) | (go_at_call 44; first | (with_reducible exact c7 _))); clear hK K))
  refine wpR_nil fun x => ?_
  obtain ⟨w12, w12b⟩ := x
  simp only [close, List.drop_succ_cons, List.drop_zero]
  clear cA0 cA1 cB0 cB1 cC0 cC1 cD0 cD1
  have A := A.later w12b
  have B := B.later w12b
  have C := C.later w12b
  have D := D.later w12b
  have W := W.trans (w12b.mono W.size)
  have nw12b := w12b.size
  clear w12b
  go_wp2_with fail
  go_ret
  exact ⟨rfl, W⟩
end Go.Proofs.Ytibpipppabommaa.Cl
