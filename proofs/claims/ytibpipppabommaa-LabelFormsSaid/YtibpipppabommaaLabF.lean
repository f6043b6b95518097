/- The law LabelForms (printed by mklab9.py). -/
import Derived.Test.YtibpipppabommaaLab8
set_option linter.unusedVariables false
set_option linter.unusedSimpArgs false
namespace Go.Proofs.Ytibpipppabommaa.Cl
open Go Go.Proofs Go.RowKit Fl Rely

set_option maxRecDepth 100000 in
set_option maxHeartbeats 4000000 in
theorem labForms_law (w : World) : Calls Try.prog 13 #[] w fun e w' => e = .returned (.bool true) ∧ Below w.heap.size w w' := by
  go_enter Try.func13, Try.ntmps13
  go_wp2_with fail
  refine (labBegun_any _).mono ?_
  rintro e w1 ⟨rfl, h1⟩
  have W := h1
  have nh1 := h1.size
  clear h1
  go_wp2_with fail
  refine at_wp fun w2 hw2 => ?_
  have R := RowAt.new w1 63 #[.int .i64 (-1), .int .i64 (0), .int .i64 (4), .int .i64 (0), .int .i64 (0), .int .i64 (-1), .int .i64 (0), .int .i64 (16)]
  have b2 := below_new w1 (.cells #[.int .i64 (-1), .int .i64 (0), .int .i64 (4), .int .i64 (0), .int .i64 (0), .int .i64 (-1), .int .i64 (0), .int .i64 (16)] 63)
  rw [← hw2] at R b2
  clear hw2
  have W := W.trans (b2.mono W.size)
  clear b2
  go_loopw [2] (fun i wr => ∃ k : Nat, k ≤ 4 ∧ i = .int .i64 k ∧ RowAt wr w1.heap.size 63 #[.int .i64 (-1), .int .i64 (0), .int .i64 (4), .int .i64 (0), .int .i64 (0), .int .i64 (-1), .int .i64 (0), .int .i64 (16)] ∧ Below w.heap.size w wr) (fun i _ => 4 - (intOf i).toNat)
  case atStart => exact ⟨0, Nat.zero_le _, rfl, R, W⟩
  case round =>
    clear R W
    obtain ⟨k, hk, rfl, R, W⟩ := hrel
    have nW := W.size
    have hways : k = 0 ∨ k = 1 ∨ k = 2 ∨ k = 3 ∨ k = 4 := by omega
    clear hk
    rcases hways with rfl | rfl | rfl | rfl | rfl
    · have vp := fun w => labPut_any (-1) (0) w
      rw [show putLV (-1) (0) = .tuple #[.int .u8 0, .bool false] from putLV_no (by decide)] at vp
      have d1 : ∀ w, Calls Try.prog 36 #[lv (-1) (0)] w fun e w' => e = .returned (.bool false) ∧ Below w.heap.size w w' := fun w => by
        have h := labMay_any (-1) (0) w
        rwa [show labOK (-1) (0) = false from by decide +kernel] at h
      have d2 : ∀ w, Calls Try.prog 38 #[lv (-1) (0), lv (0) (0)] w fun e w' => e = .returned (.bool false) ∧ Below w.heap.size w w' := fun w => by
        have h := above_any (-1) (0) (0) (0) w
        rwa [show aboveB (-1) (0) (0) (0) = false from by decide +kernel] at h
      have d3 : ∀ w, Calls Try.prog 38 #[lv (3) (15), lv (-1) (0)] w fun e w' => e = .returned (.bool false) ∧ Below w.heap.size w w' := fun w => by
        have h := above_any (3) (15) (-1) (0) w
        rwa [show aboveB (3) (15) (-1) (0) = false from by decide +kernel] at h
      have d4 : ∀ w, Calls Try.prog 40 #[lv (-1) (0), lv (1) (0)] w fun e w' => e = .returned (lv (0) (0)) ∧ Below w.heap.size w w' := fun w => by
        have h := join_any (-1) (0) (1) (0) w
        rwa [show jL (-1) (0) (1) (0) = 0 from by decide, show jC (-1) (0) (1) (0) = 0 from by decide] at h
      have d5 : ∀ w, Calls Try.prog 42 #[lv (1) (0), lv (-1) (0)] w fun e w' => e = .returned (lv (0) (0)) ∧ Below w.heap.size w w' := fun w => by
        have h := meet_any (1) (0) (-1) (0) w
        rwa [show mL (1) (0) (-1) (0) = 0 from by decide, show mC (1) (0) (-1) (0) = 0 from by decide] at h
      have d6 : ∀ w, Calls Try.prog 44 #[lv (0) (0), lv (-1) (0)] w fun e w' => e = .returned (.bool false) ∧ Below w.heap.size w w' := fun w => by
        have h := less_any (0) (0) (-1) (0) w
        rwa [show lessB (0) (0) (-1) (0) = false from by decide +kernel] at h
      have q0 : ∀ w, (binOp .neq 63 (lv 0 0) (lv 0 0)).run Try.prog w = .ok (.bool false) w := fun w => by rw [ne_lv]; rfl
      have cR0 := R.cell 0 (.int .i64 (-1)) rfl
      have cR1 := R.cell 1 (.int .i64 (0)) rfl
      have cR2 := R.cell 2 (.int .i64 (4)) rfl
      have cR3 := R.cell 3 (.int .i64 (0)) rfl
      have cR4 := R.cell 4 (.int .i64 (0)) rfl
      have cR5 := R.cell 5 (.int .i64 (-1)) rfl
      have cR6 := R.cell 6 (.int .i64 (0)) rfl
      have cR7 := R.cell 7 (.int .i64 (16)) rfl
      go_wp2_with fail
      clear cR0 cR1 cR2 cR3 cR4 cR5 cR6 cR7
      refine (vp _).mono ?_
      rintro e w11 ⟨rfl, h11⟩
      have R := R.later h11
      have W := W.trans (h11.mono W.size)
      have nh11 := h11.size
      clear h11
      go_upto_region 8 with fail
      have cR0 := R.at_ 0 (.int .i64 (-1)) rfl
      have cR1 := R.at_ 1 (.int .i64 (0)) rfl
      have cR2 := R.at_ 2 (.int .i64 (4)) rfl
      have cR3 := R.at_ 3 (.int .i64 (0)) rfl
      have cR4 := R.at_ 4 (.int .i64 (0)) rfl
      have cR5 := R.at_ 5 (.int .i64 (-1)) rfl
      have cR6 := R.at_ 6 (.int .i64 (0)) rfl
      have cR7 := R.at_ 7 (.int .i64 (16)) rfl
      refine wp_region_text 56 (by kernel_rfl) ?_
      simp only [List.take_succ_cons, List.take_zero]
      repeat (first
        | (refine wpR_step0 ?_ ?_ (fun K hK => ?_); rfl; rfl; go_simp; refine hK _ ?_; clear hK K)
        | (refine wpR_step0 ?_ ?_ (fun K hK => ?_); rfl; rfl; go_simp; apply Exists.intro; refine ⟨fun x => ?_, hK _ ?_⟩; (first | (go_at_call 36; first | (with_reducible exact d1 _)) | (go_at_call 38; first | (with_reducible exact d2 _) | (with_reducible exact d3 _)) | (go_at_call 40; first | (with_reducible exact d4 _)) | (go_at_call 42; first | (with_reducible exact d5 _)) | (go_at_call 44; first | (with_reducible exact d6 _))); clear hK K))
      refine wpR_nil fun x => ?_
      obtain ⟨w12, w12b⟩ := x
      simp only [close, List.drop_succ_cons, List.drop_zero]
      clear cR0 cR1 cR2 cR3 cR4 cR5 cR6 cR7
      have R := R.later w12b
      have W := W.trans (w12b.mono W.size)
      have nw12b := w12b.size
      clear w12b
      go_wp2_with fail
      go_roundw
      case rel => exact ⟨1, by omega, by go_num, R, W⟩
      case measure => simp only [intOf]; omega
    · have vp := fun w => labPut_any (4) (0) w
      rw [show putLV (4) (0) = .tuple #[.int .u8 0, .bool false] from putLV_no (by decide)] at vp
      have d1 : ∀ w, Calls Try.prog 36 #[lv (4) (0)] w fun e w' => e = .returned (.bool false) ∧ Below w.heap.size w w' := fun w => by
        have h := labMay_any (4) (0) w
        rwa [show labOK (4) (0) = false from by decide +kernel] at h
      have d2 : ∀ w, Calls Try.prog 38 #[lv (4) (0), lv (0) (0)] w fun e w' => e = .returned (.bool false) ∧ Below w.heap.size w w' := fun w => by
        have h := above_any (4) (0) (0) (0) w
        rwa [show aboveB (4) (0) (0) (0) = false from by decide +kernel] at h
      have d3 : ∀ w, Calls Try.prog 38 #[lv (3) (15), lv (4) (0)] w fun e w' => e = .returned (.bool false) ∧ Below w.heap.size w w' := fun w => by
        have h := above_any (3) (15) (4) (0) w
        rwa [show aboveB (3) (15) (4) (0) = false from by decide +kernel] at h
      have d4 : ∀ w, Calls Try.prog 40 #[lv (4) (0), lv (1) (0)] w fun e w' => e = .returned (lv (0) (0)) ∧ Below w.heap.size w w' := fun w => by
        have h := join_any (4) (0) (1) (0) w
        rwa [show jL (4) (0) (1) (0) = 0 from by decide, show jC (4) (0) (1) (0) = 0 from by decide] at h
      have d5 : ∀ w, Calls Try.prog 42 #[lv (1) (0), lv (4) (0)] w fun e w' => e = .returned (lv (0) (0)) ∧ Below w.heap.size w w' := fun w => by
        have h := meet_any (1) (0) (4) (0) w
        rwa [show mL (1) (0) (4) (0) = 0 from by decide, show mC (1) (0) (4) (0) = 0 from by decide] at h
      have d6 : ∀ w, Calls Try.prog 44 #[lv (0) (0), lv (4) (0)] w fun e w' => e = .returned (.bool false) ∧ Below w.heap.size w w' := fun w => by
        have h := less_any (0) (0) (4) (0) w
        rwa [show lessB (0) (0) (4) (0) = false from by decide +kernel] at h
      have q0 : ∀ w, (binOp .neq 63 (lv 0 0) (lv 0 0)).run Try.prog w = .ok (.bool false) w := fun w => by rw [ne_lv]; rfl
      have cR0 := R.cell 0 (.int .i64 (-1)) rfl
      have cR1 := R.cell 1 (.int .i64 (0)) rfl
      have cR2 := R.cell 2 (.int .i64 (4)) rfl
      have cR3 := R.cell 3 (.int .i64 (0)) rfl
      have cR4 := R.cell 4 (.int .i64 (0)) rfl
      have cR5 := R.cell 5 (.int .i64 (-1)) rfl
      have cR6 := R.cell 6 (.int .i64 (0)) rfl
      have cR7 := R.cell 7 (.int .i64 (16)) rfl
      go_wp2_with fail
      clear cR0 cR1 cR2 cR3 cR4 cR5 cR6 cR7
      refine (vp _).mono ?_
      rintro e w11 ⟨rfl, h11⟩
      have R := R.later h11
      have W := W.trans (h11.mono W.size)
      have nh11 := h11.size
      clear h11
      go_upto_region 8 with fail
      have cR0 := R.at_ 0 (.int .i64 (-1)) rfl
      have cR1 := R.at_ 1 (.int .i64 (0)) rfl
      have cR2 := R.at_ 2 (.int .i64 (4)) rfl
      have cR3 := R.at_ 3 (.int .i64 (0)) rfl
      have cR4 := R.at_ 4 (.int .i64 (0)) rfl
      have cR5 := R.at_ 5 (.int .i64 (-1)) rfl
      have cR6 := R.at_ 6 (.int .i64 (0)) rfl
      have cR7 := R.at_ 7 (.int .i64 (16)) rfl
      refine wp_region_text 56 (by kernel_rfl) ?_
      simp only [List.take_succ_cons, List.take_zero]
      repeat (first
        | (refine wpR_step0 ?_ ?_ (fun K hK => ?_); rfl; rfl; go_simp; refine hK _ ?_; clear hK K)
        | (refine wpR_step0 ?_ ?_ (fun K hK => ?_); rfl; rfl; go_simp; apply Exists.intro; refine ⟨fun x => ?_, hK _ ?_⟩; (first | (go_at_call 36; first | (with_reducible exact d1 _)) | (go_at_call 38; first | (with_reducible exact d2 _) | (with_reducible exact d3 _)) | (go_at_call 40; first | (with_reducible exact d4 _)) | (go_at_call 42; first | (with_reducible exact d5 _)) | (go_at_call 44; first | (with_reducible exact d6 _))); clear hK K))
      refine wpR_nil fun x => ?_
      obtain ⟨w12, w12b⟩ := x
      simp only [close, List.drop_succ_cons, List.drop_zero]
      clear cR0 cR1 cR2 cR3 cR4 cR5 cR6 cR7
      have R := R.later w12b
      have W := W.trans (w12b.mono W.size)
      have nw12b := w12b.size
      clear w12b
      go_wp2_with fail
      go_roundw
      case rel => exact ⟨2, by omega, by go_num, R, W⟩
      case measure => simp only [intOf]; omega
    · have vp := fun w => labPut_any (0) (-1) w
      rw [show putLV (0) (-1) = .tuple #[.int .u8 0, .bool false] from putLV_no (by decide)] at vp
      have d1 : ∀ w, Calls Try.prog 36 #[lv (0) (-1)] w fun e w' => e = .returned (.bool false) ∧ Below w.heap.size w w' := fun w => by
        have h := labMay_any (0) (-1) w
        rwa [show labOK (0) (-1) = false from by decide +kernel] at h
      have d2 : ∀ w, Calls Try.prog 38 #[lv (0) (-1), lv (0) (0)] w fun e w' => e = .returned (.bool false) ∧ Below w.heap.size w w' := fun w => by
        have h := above_any (0) (-1) (0) (0) w
        rwa [show aboveB (0) (-1) (0) (0) = false from by decide +kernel] at h
      have d3 : ∀ w, Calls Try.prog 38 #[lv (3) (15), lv (0) (-1)] w fun e w' => e = .returned (.bool false) ∧ Below w.heap.size w w' := fun w => by
        have h := above_any (3) (15) (0) (-1) w
        rwa [show aboveB (3) (15) (0) (-1) = false from by decide +kernel] at h
      have d4 : ∀ w, Calls Try.prog 40 #[lv (0) (-1), lv (1) (0)] w fun e w' => e = .returned (lv (0) (0)) ∧ Below w.heap.size w w' := fun w => by
        have h := join_any (0) (-1) (1) (0) w
        rwa [show jL (0) (-1) (1) (0) = 0 from by decide, show jC (0) (-1) (1) (0) = 0 from by decide] at h
      have d5 : ∀ w, Calls Try.prog 42 #[lv (1) (0), lv (0) (-1)] w fun e w' => e = .returned (lv (0) (0)) ∧ Below w.heap.size w w' := fun w => by
        have h := meet_any (1) (0) (0) (-1) w
        rwa [show mL (1) (0) (0) (-1) = 0 from by decide, show mC (1) (0) (0) (-1) = 0 from by decide] at h
      have d6 : ∀ w, Calls Try.prog 44 #[lv (0) (0), lv (0) (-1)] w fun e w' => e = .returned (.bool false) ∧ Below w.heap.size w w' := fun w => by
        have h := less_any (0) (0) (0) (-1) w
        rwa [show lessB (0) (0) (0) (-1) = false from by decide +kernel] at h
      have q0 : ∀ w, (binOp .neq 63 (lv 0 0) (lv 0 0)).run Try.prog w = .ok (.bool false) w := fun w => by rw [ne_lv]; rfl
      have cR0 := R.cell 0 (.int .i64 (-1)) rfl
      have cR1 := R.cell 1 (.int .i64 (0)) rfl
      have cR2 := R.cell 2 (.int .i64 (4)) rfl
      have cR3 := R.cell 3 (.int .i64 (0)) rfl
      have cR4 := R.cell 4 (.int .i64 (0)) rfl
      have cR5 := R.cell 5 (.int .i64 (-1)) rfl
      have cR6 := R.cell 6 (.int .i64 (0)) rfl
      have cR7 := R.cell 7 (.int .i64 (16)) rfl
      go_wp2_with fail
      clear cR0 cR1 cR2 cR3 cR4 cR5 cR6 cR7
      refine (vp _).mono ?_
      rintro e w11 ⟨rfl, h11⟩
      have R := R.later h11
      have W := W.trans (h11.mono W.size)
      have nh11 := h11.size
      clear h11
      go_upto_region 8 with fail
      have cR0 := R.at_ 0 (.int .i64 (-1)) rfl
      have cR1 := R.at_ 1 (.int .i64 (0)) rfl
      have cR2 := R.at_ 2 (.int .i64 (4)) rfl
      have cR3 := R.at_ 3 (.int .i64 (0)) rfl
      have cR4 := R.at_ 4 (.int .i64 (0)) rfl
      have cR5 := R.at_ 5 (.int .i64 (-1)) rfl
      have cR6 := R.at_ 6 (.int .i64 (0)) rfl
      have cR7 := R.at_ 7 (.int .i64 (16)) rfl
      refine wp_region_text 56 (by kernel_rfl) ?_
      simp only [List.take_succ_cons, List.take_zero]
      repeat (first
        | (refine wpR_step0 ?_ ?_ (fun K hK => ?_); rfl; rfl; go_simp; refine hK _ ?_; clear hK K)
        | (refine wpR_step0 ?_ ?_ (fun K hK => ?_); rfl; rfl; go_simp; apply Exists.intro; refine ⟨fun x => ?_, hK _ ?_⟩; (first | (go_at_call 36; first | (with_reducible exact d1 _)) | (go_at_call 38; first | (with_reducible exact d2 _) | (with_reducible exact d3 _)) | (go_at_call 40; first | (with_reducible exact d4 _)) | (go_at_call 42; first | (with_reducible exact d5 _)) | (go_at_call 44; first | (with_reducible exact d6 _))); clear hK K))
      refine wpR_nil fun x => ?_
      obtain ⟨w12, w12b⟩ := x
      simp only [close, List.drop_succ_cons, List.drop_zero]
      clear cR0 cR1 cR2 cR3 cR4 cR5 cR6 cR7
      have R := R.later w12b
      have W := W.trans (w12b.mono W.size)
      have nw12b := w12b.size
      clear w12b
      go_wp2_with fail
      go_roundw
      case rel => exact ⟨3, by omega, by go_num, R, W⟩
      case measure => simp only [intOf]; omega
    · have vp := fun w => labPut_any (0) (16) w
      rw [show putLV (0) (16) = .tuple #[.int .u8 0, .bool false] from putLV_no (by decide)] at vp
      have d1 : ∀ w, Calls Try.prog 36 #[lv (0) (16)] w fun e w' => e = .returned (.bool false) ∧ Below w.heap.size w w' := fun w => by
        have h := labMay_any (0) (16) w
        rwa [show labOK (0) (16) = false from by decide +kernel] at h
      have d2 : ∀ w, Calls Try.prog 38 #[lv (0) (16), lv (0) (0)] w fun e w' => e = .returned (.bool false) ∧ Below w.heap.size w w' := fun w => by
        have h := above_any (0) (16) (0) (0) w
        rwa [show aboveB (0) (16) (0) (0) = false from by decide +kernel] at h
      have d3 : ∀ w, Calls Try.prog 38 #[lv (3) (15), lv (0) (16)] w fun e w' => e = .returned (.bool false) ∧ Below w.heap.size w w' := fun w => by
        have h := above_any (3) (15) (0) (16) w
        rwa [show aboveB (3) (15) (0) (16) = false from by decide +kernel] at h
      have d4 : ∀ w, Calls Try.prog 40 #[lv (0) (16), lv (1) (0)] w fun e w' => e = .returned (lv (0) (0)) ∧ Below w.heap.size w w' := fun w => by
        have h := join_any (0) (16) (1) (0) w
        rwa [show jL (0) (16) (1) (0) = 0 from by decide, show jC (0) (16) (1) (0) = 0 from by decide] at h
      have d5 : ∀ w, Calls Try.prog 42 #[lv (1) (0), lv (0) (16)] w fun e w' => e = .returned (lv (0) (0)) ∧ Below w.heap.size w w' := fun w => by
        have h := meet_any (1) (0) (0) (16) w
        rwa [show mL (1) (0) (0) (16) = 0 from by decide, show mC (1) (0) (0) (16) = 0 from by decide] at h
      have d6 : ∀ w, Calls Try.prog 44 #[lv (0) (0), lv (0) (16)] w fun e w' => e = .returned (.bool false) ∧ Below w.heap.size w w' := fun w => by
        have h := less_any (0) (0) (0) (16) w
        rwa [show lessB (0) (0) (0) (16) = false from by decide +kernel] at h
      have q0 : ∀ w, (binOp .neq 63 (lv 0 0) (lv 0 0)).run Try.prog w = .ok (.bool false) w := fun w => by rw [ne_lv]; rfl
      have cR0 := R.cell 0 (.int .i64 (-1)) rfl
      have cR1 := R.cell 1 (.int .i64 (0)) rfl
      have cR2 := R.cell 2 (.int .i64 (4)) rfl
      have cR3 := R.cell 3 (.int .i64 (0)) rfl
      have cR4 := R.cell 4 (.int .i64 (0)) rfl
      have cR5 := R.cell 5 (.int .i64 (-1)) rfl
      have cR6 := R.cell 6 (.int .i64 (0)) rfl
      have cR7 := R.cell 7 (.int .i64 (16)) rfl
      go_wp2_with fail
      clear cR0 cR1 cR2 cR3 cR4 cR5 cR6 cR7
      refine (vp _).mono ?_
      rintro e w11 ⟨rfl, h11⟩
      have R := R.later h11
      have W := W.trans (h11.mono W.size)
      have nh11 := h11.size
      clear h11
      go_upto_region 8 with fail
      have cR0 := R.at_ 0 (.int .i64 (-1)) rfl
      have cR1 := R.at_ 1 (.int .i64 (0)) rfl
      have cR2 := R.at_ 2 (.int .i64 (4)) rfl
      have cR3 := R.at_ 3 (.int .i64 (0)) rfl
      have cR4 := R.at_ 4 (.int .i64 (0)) rfl
      have cR5 := R.at_ 5 (.int .i64 (-1)) rfl
      have cR6 := R.at_ 6 (.int .i64 (0)) rfl
      have cR7 := R.at_ 7 (.int .i64 (16)) rfl
      refine wp_region_text 56 (by kernel_rfl) ?_
      simp only [List.take_succ_cons, List.take_zero]
      repeat (first
        | (refine wpR_step0 ?_ ?_ (fun K hK => ?_); rfl; rfl; go_simp; refine hK _ ?_; clear hK K)
        | (refine wpR_step0 ?_ ?_ (fun K hK => ?_); rfl; rfl; go_simp; apply Exists.intro; refine ⟨fun x => ?_, hK _ ?_⟩; (first | (go_at_call 36; first | (with_reducible exact d1 _)) | (go_at_call 38; first | (with_reducible exact d2 _) | (with_reducible exact d3 _)) | (go_at_call 40; first | (with_reducible exact d4 _)) | (go_at_call 42; first | (with_reducible exact d5 _)) | (go_at_call 44; first | (with_reducible exact d6 _))); clear hK K))
      refine wpR_nil fun x => ?_
      obtain ⟨w12, w12b⟩ := x
      simp only [close, List.drop_succ_cons, List.drop_zero]
      clear cR0 cR1 cR2 cR3 cR4 cR5 cR6 cR7
      have R := R.later w12b
      have W := W.trans (w12b.mono W.size)
      have nw12b := w12b.size
      clear w12b
      go_wp2_with fail
      go_roundw
      case rel => exact ⟨4, by omega, by go_num, R, W⟩
      case measure => simp only [intOf]; omega
    · skip
      have d1 : ∀ w, Calls Try.prog 38 #[lv (1) (12), lv (1) (3)] w fun e w' => e = .returned (.bool false) ∧ Below w.heap.size w w' := fun w => by
        have h := above_any (1) (12) (1) (3) w
        rwa [show aboveB (1) (12) (1) (3) = false from by decide +kernel] at h
      have d2 : ∀ w, Calls Try.prog 38 #[lv (1) (3), lv (1) (12)] w fun e w' => e = .returned (.bool false) ∧ Below w.heap.size w w' := fun w => by
        have h := above_any (1) (3) (1) (12) w
        rwa [show aboveB (1) (3) (1) (12) = false from by decide +kernel] at h
      have d3 : ∀ w, Calls Try.prog 44 #[lv (1) (3), lv (1) (12)] w fun e w' => e = .returned (.bool true) ∧ Below w.heap.size w w' := fun w => by
        have h := less_any (1) (3) (1) (12) w
        rwa [show lessB (1) (3) (1) (12) = true from by decide +kernel] at h
      have d4 : ∀ w, Calls Try.prog 44 #[lv (1) (12), lv (1) (3)] w fun e w' => e = .returned (.bool false) ∧ Below w.heap.size w w' := fun w => by
        have h := less_any (1) (12) (1) (3) w
        rwa [show lessB (1) (12) (1) (3) = false from by decide +kernel] at h
      have d5 : ∀ w, Calls Try.prog 44 #[lv (1) (8), lv (1) (3)] w fun e w' => e = .returned (.bool true) ∧ Below w.heap.size w w' := fun w => by
        have h := less_any (1) (8) (1) (3) w
        rwa [show lessB (1) (8) (1) (3) = true from by decide +kernel] at h
      have d6 : ∀ w, Calls Try.prog 40 #[lv (1) (12), lv (1) (3)] w fun e w' => e = .returned (lv (1) (15)) ∧ Below w.heap.size w w' := fun w => by
        have h := join_any (1) (12) (1) (3) w
        rwa [show jL (1) (12) (1) (3) = 1 from by decide, show jC (1) (12) (1) (3) = 15 from by decide] at h
      have d7 : ∀ w, Calls Try.prog 42 #[lv (1) (12), lv (1) (3)] w fun e w' => e = .returned (lv (1) (0)) ∧ Below w.heap.size w w' := fun w => by
        have h := meet_any (1) (12) (1) (3) w
        rwa [show mL (1) (12) (1) (3) = 1 from by decide, show mC (1) (12) (1) (3) = 0 from by decide] at h
      have q0 : ∀ w, (binOp .eql 63 (lv 1 15) (lv 1 15)).run Try.prog w = .ok (.bool true) w := fun w => by rw [eq_lv]; rfl
      have q1 : ∀ w, (binOp .eql 63 (lv 1 0) (lv 1 0)).run Try.prog w = .ok (.bool true) w := fun w => by rw [eq_lv]; rfl
      clear R
      go_wp2_with (refine wp_want rfl fun K hK => ?_; refine wp_rw_alloc (P := Try.prog) (t := 63) (lv 0 0) zeroLab rfl ?_)
      intro w11 R11 b11 s11
      refine hK _ _ ?_
      clear hK K
      have W := W.trans (b11.mono W.size)
      have nb11 := b11.size
      have A := R11
      clear R11 b11
      go_wp2_with (refine wp_want rfl fun K hK => ?_; refine wp_rw_alloc (P := Try.prog) (t := 63) (lv 0 0) zeroLab rfl ?_)
      intro w12 R12 b12 s12
      refine hK _ _ ?_
      clear hK K
      have A := A.later b12
      have W := W.trans (b12.mono W.size)
      have nb12 := b12.size
      have B := R12
      clear R12 b12
      go_wp2_with (refine wp_want rfl fun K hK => ?_; refine wp_lab_store A rfl rfl rfl ?_)
      intro w13 R13 g13 z13
      refine hK _ _ ?_
      clear hK K
      have B := B.grown g13 (by omega)
      have W := below_row W g13 (by omega) (by omega)
      have A := R13
      clear R13 g13
      go_wp2_with (refine wp_want rfl fun K hK => ?_; refine wp_lab_store B rfl rfl rfl ?_)
      intro w14 R14 g14 z14
      refine hK _ _ ?_
      clear hK K
      have A := A.grown g14 (by omega)
      have W := below_row W g14 (by omega) (by omega)
      have B := R14
      clear R14 g14
      go_upto_region 11 with fail
      have cA0 := A.at_ 0 (.int .i64 (1)) rfl
      have cA1 := A.at_ 1 (.int .i64 (12)) rfl
      have cB0 := B.at_ 0 (.int .i64 (1)) rfl
      have cB1 := B.at_ 1 (.int .i64 (3)) rfl
      refine wp_region_text 41 (by kernel_rfl) ?_
      simp only [List.take_succ_cons, List.take_zero]
      repeat (first
        | (refine wpR_step0 ?_ ?_ (fun K hK => ?_); rfl; rfl; go_simp; refine hK _ ?_; clear hK K)
        | (refine wpR_step0 ?_ ?_ (fun K hK => ?_); rfl; rfl; go_simp; apply Exists.intro; refine ⟨fun x => ?_, hK _ ?_⟩; (first | (go_at_call 38; first | (with_reducible exact d1 _) | (with_reducible exact d2 _)) | (go_at_call 44; first | (with_reducible exact d3 _) | (with_reducible exact d4 _) | (with_reducible exact d5 _)) | (go_at_call 40; first | (with_reducible exact d6 _)) | (go_at_call 42; first | (with_reducible exact d7 _))); clear hK K))
      refine wpR_nil fun x => ?_
      obtain ⟨w15, w15b⟩ := x
      simp only [close, List.drop_succ_cons, List.drop_zero]
      clear cA0 cA1 cB0 cB1
      have A := A.later w15b
      have B := B.later w15b
      have W := W.trans (w15b.mono W.size)
      have nw15b := w15b.size
      clear w15b
      go_wp2_with fail
      go_ret
      exact ⟨rfl, W⟩
end Go.Proofs.Ytibpipppabommaa.Cl
