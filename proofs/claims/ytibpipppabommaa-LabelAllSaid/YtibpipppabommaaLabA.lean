/- The law LabelAll (printed by mklab9.py). -/
import Derived.Test.YtibpipppabommaaLab8
import Derived.Lib.SmallJoins
set_option linter.unusedVariables false
set_option linter.unusedSimpArgs false
namespace Go.Proofs.Ytibpipppabommaa.Cl
open Go Go.Proofs Go.RowKit Fl Rely Go.ChangeShapes Go.WideShapes

set_option maxRecDepth 100000 in
set_option maxHeartbeats 4000000 in
theorem labAll_law (l c l' c' : Int) (n : Nat) (w : World) (hn : n < 256) : Calls Try.prog 9 #[lv l c, lv l' c', .int .u8 n] w fun e w' => e = .returned (.bool true) ∧ Below w.heap.size w w' := by
  obtain ⟨P, k, hput⟩ : ∃ (P : Int) (k : Bool), putLV l c = .tuple #[.int .u8 P, .bool k] := ⟨_, _, rfl⟩
  obtain ⟨x, y, q, htake⟩ : ∃ (x y : Int) (q : Bool), takeLV n = .tuple #[lv x y, .bool q] := ⟨_, _, _, rfl⟩
  have v1 := fun w => labPut_any l c w
  have v2 := fun w => refLabPut_any l c w
  have v3 := fun w => labTake_any n hn w
  have v4 := fun w => refLabTake_any n hn w
  rw [hput] at v1 v2
  rw [htake] at v3 v4
  clear hput htake
  have m1 := fun w => labMay_any l c w
  have m2 := fun w => refLabMay_any l c w
  have m3 := fun w => refLabMay_any l' c' w
  have q0 : ∀ w, (binOp .neq 63 (lv x y) (lv x y)).run Try.prog w = .ok (.bool false) w := fun w => by rw [ne_lv]; simp
  cases h1 : labOK l c
  · rw [h1] at m1 m2
    clear h1
    go_enter Try.func9, Try.ntmps9
    go_wp2_with (refine wp_want rfl fun K hK => ?_; refine wp_rw_box (P := Try.prog) (t := 63) #[.int .i64 (l), .int .i64 (c)] rfl rfl ?_)
    intro w1 R1 b1 s1
    refine hK _ _ ?_
    clear hK K
    have W := b1
    have nb1 := b1.size
    have A := R1
    clear R1 b1
    go_wp2_with (refine wp_want rfl fun K hK => ?_; refine wp_rw_box (P := Try.prog) (t := 63) #[.int .i64 (l'), .int .i64 (c')] rfl rfl ?_)
    intro w2 R2 b2 s2
    refine hK _ _ ?_
    clear hK K
    have A := A.later b2
    have W := W.trans (b2.mono W.size)
    have nb2 := b2.size
    have B := R2
    clear R2 b2
    have cA0 := A.cell 0 (.int .i64 (l)) rfl
    have cA1 := A.cell 1 (.int .i64 (c)) rfl
    have cB0 := B.cell 0 (.int .i64 (l')) rfl
    have cB1 := B.cell 1 (.int .i64 (c')) rfl
    go_wp2_with fail
    clear cA0 cA1 cB0 cB1
    refine (labBegun_any _).mono ?_
    rintro e w3 ⟨rfl, h3⟩
    have A := A.later h3
    have B := B.later h3
    have W := W.trans (h3.mono W.size)
    have nh3 := h3.size
    clear h3
    have cA0 := A.cell 0 (.int .i64 (l)) rfl
    have cA1 := A.cell 1 (.int .i64 (c)) rfl
    have cB0 := B.cell 0 (.int .i64 (l')) rfl
    have cB1 := B.cell 1 (.int .i64 (c')) rfl
    go_wp2_with fail
    clear cA0 cA1 cB0 cB1
    refine (v1 _).mono ?_
    rintro e w4 ⟨rfl, h4⟩
    have A := A.later h4
    have B := B.later h4
    have W := W.trans (h4.mono W.size)
    have nh4 := h4.size
    clear h4
    have cA0 := A.cell 0 (.int .i64 (l)) rfl
    have cA1 := A.cell 1 (.int .i64 (c)) rfl
    have cB0 := B.cell 0 (.int .i64 (l')) rfl
    have cB1 := B.cell 1 (.int .i64 (c')) rfl
    go_wp2_with fail
    clear cA0 cA1 cB0 cB1
    refine (v2 _).mono ?_
    rintro e w5 ⟨rfl, h5⟩
    have A := A.later h5
    have B := B.later h5
    have W := W.trans (h5.mono W.size)
    have nh5 := h5.size
    clear h5
    have cA0 := A.cell 0 (.int .i64 (l)) rfl
    have cA1 := A.cell 1 (.int .i64 (c)) rfl
    have cB0 := B.cell 0 (.int .i64 (l')) rfl
    have cB1 := B.cell 1 (.int .i64 (c')) rfl
    go_wp2_with fail
    clear cA0 cA1 cB0 cB1
    refine (v3 _).mono ?_
    rintro e w6 ⟨rfl, h6⟩
    have A := A.later h6
    have B := B.later h6
    have W := W.trans (h6.mono W.size)
    have nh6 := h6.size
    clear h6
    go_wp2_with (refine wp_want rfl fun K hK => ?_; refine wp_rw_alloc (P := Try.prog) (t := 63) (lv 0 0) zeroLab rfl ?_)
    intro w7 R7 b7 s7
    refine hK _ _ ?_
    clear hK K
    have A := A.later b7
    have B := B.later b7
    have W := W.trans (b7.mono W.size)
    have nb7 := b7.size
    have C := R7
    clear R7 b7
    go_wp2_with (refine wp_want rfl fun K hK => ?_; refine wp_lab_store C rfl rfl rfl ?_)
    intro w8 R8 g8 z8
    refine hK _ _ ?_
    clear hK K
    have A := A.grown g8 (by omega)
    have B := B.grown g8 (by omega)
    have W := below_row W g8 (by omega) (by omega)
    have C := R8
    clear R8 g8
    have cA0 := A.cell 0 (.int .i64 (l)) rfl
    have cA1 := A.cell 1 (.int .i64 (c)) rfl
    have cB0 := B.cell 0 (.int .i64 (l')) rfl
    have cB1 := B.cell 1 (.int .i64 (c')) rfl
    have cC0 := C.cell 0 (.int .i64 (x)) rfl
    have cC1 := C.cell 1 (.int .i64 (y)) rfl
    go_wp2_with fail
    clear cA0 cA1 cB0 cB1 cC0 cC1
    refine (v4 _).mono ?_
    rintro e w9 ⟨rfl, h9⟩
    have A := A.later h9
    have B := B.later h9
    have C := C.later h9
    have W := W.trans (h9.mono W.size)
    have nh9 := h9.size
    clear h9
    go_wp2_with (refine wp_want rfl fun K hK => ?_; refine wp_rw_alloc (P := Try.prog) (t := 63) (lv 0 0) zeroLab rfl ?_)
    intro w10 R10 b10 s10
    refine hK _ _ ?_
    clear hK K
    have A := A.later b10
    have B := B.later b10
    have C := C.later b10
    have W := W.trans (b10.mono W.size)
    have nb10 := b10.size
    have D := R10
    clear R10 b10
    go_wp2_with (refine wp_want rfl fun K hK => ?_; refine wp_lab_store D rfl rfl rfl ?_)
    intro w11 R11 g11 z11
    refine hK _ _ ?_
    clear hK K
    have A := A.grown g11 (by omega)
    have B := B.grown g11 (by omega)
    have C := C.grown g11 (by omega)
    have W := below_row W g11 (by omega) (by omega)
    have D := R11
    clear R11 g11
    have cA0 := A.cell 0 (.int .i64 (l)) rfl
    have cA1 := A.cell 1 (.int .i64 (c)) rfl
    have cB0 := B.cell 0 (.int .i64 (l')) rfl
    have cB1 := B.cell 1 (.int .i64 (c')) rfl
    have cC0 := C.cell 0 (.int .i64 (x)) rfl
    have cC1 := C.cell 1 (.int .i64 (y)) rfl
    have cD0 := D.cell 0 (.int .i64 (x)) rfl
    have cD1 := D.cell 1 (.int .i64 (y)) rfl
    go_wp2_with fail
    clear cA0 cA1 cB0 cB1 cC0 cC1 cD0 cD1
    have cA0 := A.drew.at_ 0 (.int .i64 (l)) rfl
    have cA1 := A.drew.at_ 1 (.int .i64 (c)) rfl
    have cB0 := B.drew.at_ 0 (.int .i64 (l')) rfl
    have cB1 := B.drew.at_ 1 (.int .i64 (c')) rfl
    have cC0 := C.drew.at_ 0 (.int .i64 (x)) rfl
    have cC1 := C.drew.at_ 1 (.int .i64 (y)) rfl
    have cD0 := D.drew.at_ 0 (.int .i64 (x)) rfl
    have cD1 := D.drew.at_ 1 (.int .i64 (y)) rfl
    have W := W.drew
    have A := A.drew
    have B := B.drew
    have C := C.drew
    have D := D.drew
    refine wp_region_rely 25 (by kernel_rfl) (by kernel_rfl) ?_
    simp only [List.take_succ_cons, List.take_zero]
    generalize World.drew w11 = w12d at *
    repeat (first
      | (refine wpR_step0 ?_ ?_ (fun K hK => ?_); rfl; rfl; go_simp; refine hK _ ?_; clear hK K)
      | (refine wpR_step0 ?_ ?_ (fun K hK => ?_); rfl; rfl; go_simp; apply Exists.intro; refine ⟨fun x => ?_, hK _ ?_⟩; (first | (go_at_call 36; (with_reducible exact m1 _)) | (go_at_call 37; first | (with_reducible exact m2 _) | (with_reducible exact m3 _))); clear hK K))
    refine wpR_nil fun x => ?_
    obtain ⟨w12, w12b⟩ := x
    simp only [close, List.drop_succ_cons, List.drop_zero]
    clear cA0 cA1 cB0 cB1 cC0 cC1 cD0 cD1
    have A := A.later w12b
    have B := B.later w12b
    have C := C.later w12b
    have D := D.later w12b
    have W := W.trans (w12b.mono W.size)
    have nw12b := w12b.size
    clear w12b
    go_upto_region 9 with fail
    go_upto_region 9 with fail
    have cA0 := A.at_ 0 (.int .i64 (l)) rfl
    have cA1 := A.at_ 1 (.int .i64 (c)) rfl
    have cB0 := B.at_ 0 (.int .i64 (l')) rfl
    have cB1 := B.at_ 1 (.int .i64 (c')) rfl
    have cC0 := C.at_ 0 (.int .i64 (x)) rfl
    have cC1 := C.at_ 1 (.int .i64 (y)) rfl
    have cD0 := D.at_ 0 (.int .i64 (x)) rfl
    have cD1 := D.at_ 1 (.int .i64 (y)) rfl
    refine wp_region_text 8 (by kernel_rfl) ?_
    simp only [List.take_succ_cons, List.take_zero]
    repeat (first
      | (refine wpR_step0 ?_ ?_ (fun K hK => ?_); rfl; rfl; go_simp; refine hK _ ?_; clear hK K)
      | (refine wpR_step0 ?_ ?_ (fun K hK => ?_); rfl; rfl; go_simp; apply Exists.intro; refine ⟨fun x => ?_, hK _ ?_⟩; (first | (go_at_call 36; (with_reducible exact m1 _)) | (go_at_call 37; first | (with_reducible exact m2 _) | (with_reducible exact m3 _))); clear hK K))
    refine wpR_nil fun x => ?_
    obtain ⟨w13, w13b⟩ := x
    simp only [close, List.drop_succ_cons, List.drop_zero]
    clear cA0 cA1 cB0 cB1 cC0 cC1 cD0 cD1
    have A := A.later w13b
    have B := B.later w13b
    have C := C.later w13b
    have D := D.later w13b
    have W := W.trans (w13b.mono W.size)
    have nw13b := w13b.size
    clear w13b
    go_wp2_with fail
    go_ret
    exact ⟨rfl, W⟩
  · cases h2 : labOK l' c'
    · rw [h1] at m1 m2
      rw [h2] at m3
      clear h1 h2
      go_enter Try.func9, Try.ntmps9
      go_wp2_with (refine wp_want rfl fun K hK => ?_; refine wp_rw_box (P := Try.prog) (t := 63) #[.int .i64 (l), .int .i64 (c)] rfl rfl ?_)
      intro w1 R1 b1 s1
      refine hK _ _ ?_
      clear hK K
      have W := b1
      have nb1 := b1.size
      have A := R1
      clear R1 b1
      go_wp2_with (refine wp_want rfl fun K hK => ?_; refine wp_rw_box (P := Try.prog) (t := 63) #[.int .i64 (l'), .int .i64 (c')] rfl rfl ?_)
      intro w2 R2 b2 s2
      refine hK _ _ ?_
      clear hK K
      have A := A.later b2
      have W := W.trans (b2.mono W.size)
      have nb2 := b2.size
      have B := R2
      clear R2 b2
      have cA0 := A.cell 0 (.int .i64 (l)) rfl
      have cA1 := A.cell 1 (.int .i64 (c)) rfl
      have cB0 := B.cell 0 (.int .i64 (l')) rfl
      have cB1 := B.cell 1 (.int .i64 (c')) rfl
      go_wp2_with fail
      clear cA0 cA1 cB0 cB1
      refine (labBegun_any _).mono ?_
      rintro e w3 ⟨rfl, h3⟩
      have A := A.later h3
      have B := B.later h3
      have W := W.trans (h3.mono W.size)
      have nh3 := h3.size
      clear h3
      have cA0 := A.cell 0 (.int .i64 (l)) rfl
      have cA1 := A.cell 1 (.int .i64 (c)) rfl
      have cB0 := B.cell 0 (.int .i64 (l')) rfl
      have cB1 := B.cell 1 (.int .i64 (c')) rfl
      go_wp2_with fail
      clear cA0 cA1 cB0 cB1
      refine (v1 _).mono ?_
      rintro e w4 ⟨rfl, h4⟩
      have A := A.later h4
      have B := B.later h4
      have W := W.trans (h4.mono W.size)
      have nh4 := h4.size
      clear h4
      have cA0 := A.cell 0 (.int .i64 (l)) rfl
      have cA1 := A.cell 1 (.int .i64 (c)) rfl
      have cB0 := B.cell 0 (.int .i64 (l')) rfl
      have cB1 := B.cell 1 (.int .i64 (c')) rfl
      go_wp2_with fail
      clear cA0 cA1 cB0 cB1
      refine (v2 _).mono ?_
      rintro e w5 ⟨rfl, h5⟩
      have A := A.later h5
      have B := B.later h5
      have W := W.trans (h5.mono W.size)
      have nh5 := h5.size
      clear h5
      have cA0 := A.cell 0 (.int .i64 (l)) rfl
      have cA1 := A.cell 1 (.int .i64 (c)) rfl
      have cB0 := B.cell 0 (.int .i64 (l')) rfl
      have cB1 := B.cell 1 (.int .i64 (c')) rfl
      go_wp2_with fail
      clear cA0 cA1 cB0 cB1
      refine (v3 _).mono ?_
      rintro e w6 ⟨rfl, h6⟩
      have A := A.later h6
      have B := B.later h6
      have W := W.trans (h6.mono W.size)
      have nh6 := h6.size
      clear h6
      go_wp2_with (refine wp_want rfl fun K hK => ?_; refine wp_rw_alloc (P := Try.prog) (t := 63) (lv 0 0) zeroLab rfl ?_)
      intro w7 R7 b7 s7
      refine hK _ _ ?_
      clear hK K
      have A := A.later b7
      have B := B.later b7
      have W := W.trans (b7.mono W.size)
      have nb7 := b7.size
      have C := R7
      clear R7 b7
      go_wp2_with (refine wp_want rfl fun K hK => ?_; refine wp_lab_store C rfl rfl rfl ?_)
      intro w8 R8 g8 z8
      refine hK _ _ ?_
      clear hK K
      have A := A.grown g8 (by omega)
      have B := B.grown g8 (by omega)
      have W := below_row W g8 (by omega) (by omega)
      have C := R8
      clear R8 g8
      have cA0 := A.cell 0 (.int .i64 (l)) rfl
      have cA1 := A.cell 1 (.int .i64 (c)) rfl
      have cB0 := B.cell 0 (.int .i64 (l')) rfl
      have cB1 := B.cell 1 (.int .i64 (c')) rfl
      have cC0 := C.cell 0 (.int .i64 (x)) rfl
      have cC1 := C.cell 1 (.int .i64 (y)) rfl
      go_wp2_with fail
      clear cA0 cA1 cB0 cB1 cC0 cC1
      refine (v4 _).mono ?_
      rintro e w9 ⟨rfl, h9⟩
      have A := A.later h9
      have B := B.later h9
      have C := C.later h9
      have W := W.trans (h9.mono W.size)
      have nh9 := h9.size
      clear h9
      go_wp2_with (refine wp_want rfl fun K hK => ?_; refine wp_rw_alloc (P := Try.prog) (t := 63) (lv 0 0) zeroLab rfl ?_)
      intro w10 R10 b10 s10
      refine hK _ _ ?_
      clear hK K
      have A := A.later b10
      have B := B.later b10
      have C := C.later b10
      have W := W.trans (b10.mono W.size)
      have nb10 := b10.size
      have D := R10
      clear R10 b10
      go_wp2_with (refine wp_want rfl fun K hK => ?_; refine wp_lab_store D rfl rfl rfl ?_)
      intro w11 R11 g11 z11
      refine hK _ _ ?_
      clear hK K
      have A := A.grown g11 (by omega)
      have B := B.grown g11 (by omega)
      have C := C.grown g11 (by omega)
      have W := below_row W g11 (by omega) (by omega)
      have D := R11
      clear R11 g11
      have cA0 := A.cell 0 (.int .i64 (l)) rfl
      have cA1 := A.cell 1 (.int .i64 (c)) rfl
      have cB0 := B.cell 0 (.int .i64 (l')) rfl
      have cB1 := B.cell 1 (.int .i64 (c')) rfl
      have cC0 := C.cell 0 (.int .i64 (x)) rfl
      have cC1 := C.cell 1 (.int .i64 (y)) rfl
      have cD0 := D.cell 0 (.int .i64 (x)) rfl
      have cD1 := D.cell 1 (.int .i64 (y)) rfl
      go_wp2_with fail
      clear cA0 cA1 cB0 cB1 cC0 cC1 cD0 cD1
      have cA0 := A.drew.at_ 0 (.int .i64 (l)) rfl
      have cA1 := A.drew.at_ 1 (.int .i64 (c)) rfl
      have cB0 := B.drew.at_ 0 (.int .i64 (l')) rfl
      have cB1 := B.drew.at_ 1 (.int .i64 (c')) rfl
      have cC0 := C.drew.at_ 0 (.int .i64 (x)) rfl
      have cC1 := C.drew.at_ 1 (.int .i64 (y)) rfl
      have cD0 := D.drew.at_ 0 (.int .i64 (x)) rfl
      have cD1 := D.drew.at_ 1 (.int .i64 (y)) rfl
      have W := W.drew
      have A := A.drew
      have B := B.drew
      have C := C.drew
      have D := D.drew
      refine wp_region_rely 25 (by kernel_rfl) (by kernel_rfl) ?_
      simp only [List.take_succ_cons, List.take_zero]
      generalize World.drew w11 = w12d at *
      repeat (first
        | (refine wpR_step0 ?_ ?_ (fun K hK => ?_); rfl; rfl; go_simp; refine hK _ ?_; clear hK K)
        | (refine wpR_step0 ?_ ?_ (fun K hK => ?_); rfl; rfl; go_simp; apply Exists.intro; refine ⟨fun x => ?_, hK _ ?_⟩; (first | (go_at_call 36; (with_reducible exact m1 _)) | (go_at_call 37; first | (with_reducible exact m2 _) | (with_reducible exact m3 _))); clear hK K))
      refine wpR_nil fun x => ?_
      obtain ⟨w12, w12b⟩ := x
      simp only [close, List.drop_succ_cons, List.drop_zero]
      clear cA0 cA1 cB0 cB1 cC0 cC1 cD0 cD1
      have A := A.later w12b
      have B := B.later w12b
      have C := C.later w12b
      have D := D.later w12b
      have W := W.trans (w12b.mono W.size)
      have nw12b := w12b.size
      clear w12b
      go_upto_region 9 with fail
      go_upto_region 9 with fail
      have cA0 := A.at_ 0 (.int .i64 (l)) rfl
      have cA1 := A.at_ 1 (.int .i64 (c)) rfl
      have cB0 := B.at_ 0 (.int .i64 (l')) rfl
      have cB1 := B.at_ 1 (.int .i64 (c')) rfl
      have cC0 := C.at_ 0 (.int .i64 (x)) rfl
      have cC1 := C.at_ 1 (.int .i64 (y)) rfl
      have cD0 := D.at_ 0 (.int .i64 (x)) rfl
      have cD1 := D.at_ 1 (.int .i64 (y)) rfl
      refine wp_region_text 8 (by kernel_rfl) ?_
      simp only [List.take_succ_cons, List.take_zero]
      repeat (first
        | (refine wpR_step0 ?_ ?_ (fun K hK => ?_); rfl; rfl; go_simp; refine hK _ ?_; clear hK K)
        | (refine wpR_step0 ?_ ?_ (fun K hK => ?_); rfl; rfl; go_simp; apply Exists.intro; refine ⟨fun x => ?_, hK _ ?_⟩; (first | (go_at_call 36; (with_reducible exact m1 _)) | (go_at_call 37; first | (with_reducible exact m2 _) | (with_reducible exact m3 _))); clear hK K))
      refine wpR_nil fun x => ?_
      obtain ⟨w13, w13b⟩ := x
      simp only [close, List.drop_succ_cons, List.drop_zero]
      clear cA0 cA1 cB0 cB1 cC0 cC1 cD0 cD1
      have A := A.later w13b
      have B := B.later w13b
      have C := C.later w13b
      have D := D.later w13b
      have W := W.trans (w13b.mono W.size)
      have nw13b := w13b.size
      clear w13b
      go_wp2_with fail
      go_ret
      exact ⟨rfl, W⟩
    · obtain ⟨a1, a2, rfl, rfl, ha1, ha2⟩ := lab_nat h1
      obtain ⟨b1, b2, rfl, rfl, hb1, hb2⟩ := lab_nat h2
      rw [h1] at m1 m2
      rw [h2] at m3
      clear h1 h2
      obtain ⟨a, ha⟩ : ∃ a : Nat × Nat, a = (a1, a2) := ⟨_, rfl⟩
      obtain ⟨b, hb⟩ : ∃ b : Nat × Nat, b = (b1, b2) := ⟨_, rfl⟩
      have ka : OkP a := by rw [ha]; exact ⟨ha1, ha2⟩
      have kb : OkP b := by rw [hb]; exact ⟨hb1, hb2⟩
      obtain rfl : a1 = a.1 := by rw [ha]
      obtain rfl : a2 = a.2 := by rw [ha]
      obtain rfl : b1 = b.1 := by rw [hb]
      obtain rfl : b2 = b.2 := by rw [hb]
      clear ha hb ha1 ha2 hb1 hb2
      obtain ⟨p, hp⟩ : ∃ x, ab a b = x := ⟨_, rfl⟩
      obtain ⟨s, hs⟩ : ∃ x, ls a b = x := ⟨_, rfl⟩
      have u1 : ∀ w, Calls Try.prog 38 #[lvp a, lvp b] w fun e w' => e = .returned (.bool p) ∧ Below w.heap.size w w' := fun w => by
        have h := above_p a b ka kb w
        rwa [show ab a b = p from hp] at h
      have u2 : ∀ w, Calls Try.prog 39 #[lvp a, lvp b] w fun e w' => e = .returned (.bool p) ∧ Below w.heap.size w w' := fun w => by
        have h := refAbove_p a b ka kb w
        rwa [show ab a b = p from hp] at h
      have u3 : ∀ w, Calls Try.prog 44 #[lvp a, lvp b] w fun e w' => e = .returned (.bool s) ∧ Below w.heap.size w w' := fun w => by
        have h := less_p a b ka kb w
        rwa [show ls a b = s from hs] at h
      have u4 : ∀ w, Calls Try.prog 45 #[lvp a, lvp b] w fun e w' => e = .returned (.bool s) ∧ Below w.heap.size w w' := fun w => by
        have h := refLess_p a b ka kb w
        rwa [show ls a b = s from hs] at h
      obtain ⟨J, hJ⟩ : ∃ x : Nat × Nat, x = jn a b := ⟨_, rfl⟩
      have kJ : OkP J := by rw [hJ]; exact jn_ok ka kb
      have u5 : ∀ w, Calls Try.prog 40 #[lvp a, lvp b] w fun e w' => e = .returned (lvp J) ∧ Below w.heap.size w w' := fun w => by
        have h := join_p a b ka kb w
        rwa [show jn a b = J from hJ.symm] at h
      have u6 : ∀ w, Calls Try.prog 41 #[lvp a, lvp b] w fun e w' => e = .returned (lvp J) ∧ Below w.heap.size w w' := fun w => by
        have h := refJoin_p a b ka kb w
        rwa [show jn a b = J from hJ.symm] at h
      obtain ⟨M, hM⟩ : ∃ x : Nat × Nat, x = mt a b := ⟨_, rfl⟩
      have kM : OkP M := by rw [hM]; exact mt_ok ka kb
      have u7 : ∀ w, Calls Try.prog 42 #[lvp a, lvp b] w fun e w' => e = .returned (lvp M) ∧ Below w.heap.size w w' := fun w => by
        have h := meet_p a b ka kb w
        rwa [show mt a b = M from hM.symm] at h
      have u8 : ∀ w, Calls Try.prog 43 #[lvp a, lvp b] w fun e w' => e = .returned (lvp M) ∧ Below w.heap.size w w' := fun w => by
        have h := refMeet_p a b ka kb w
        rwa [show mt a b = M from hM.symm] at h
      have eJ := fun w => eq_p J J true (by simp) w
      have eM := fun w => eq_p M M true (by simp) w
      clear hJ hM
      clear hp hs
      go_enter Try.func9, Try.ntmps9
      go_wp2_with (refine wp_want rfl fun K hK => ?_; refine wp_rw_box (P := Try.prog) (t := 63) #[.int .i64 (a.1 : Int), .int .i64 (a.2 : Int)] rfl rfl ?_)
      intro w1 R1 b1 s1
      refine hK _ _ ?_
      clear hK K
      have W := b1
      have nb1 := b1.size
      have A := R1
      clear R1 b1
      go_wp2_with (refine wp_want rfl fun K hK => ?_; refine wp_rw_box (P := Try.prog) (t := 63) #[.int .i64 (b.1 : Int), .int .i64 (b.2 : Int)] rfl rfl ?_)
      intro w2 R2 b2 s2
      refine hK _ _ ?_
      clear hK K
      have A := A.later b2
      have W := W.trans (b2.mono W.size)
      have nb2 := b2.size
      have B := R2
      clear R2 b2
      have cA0 := A.cell 0 (.int .i64 (a.1 : Int)) rfl
      have cA1 := A.cell 1 (.int .i64 (a.2 : Int)) rfl
      have cB0 := B.cell 0 (.int .i64 (b.1 : Int)) rfl
      have cB1 := B.cell 1 (.int .i64 (b.2 : Int)) rfl
      go_wp2_with fail
      clear cA0 cA1 cB0 cB1
      refine (labBegun_any _).mono ?_
      rintro e w3 ⟨rfl, h3⟩
      have A := A.later h3
      have B := B.later h3
      have W := W.trans (h3.mono W.size)
      have nh3 := h3.size
      clear h3
      have cA0 := A.cell 0 (.int .i64 (a.1 : Int)) rfl
      have cA1 := A.cell 1 (.int .i64 (a.2 : Int)) rfl
      have cB0 := B.cell 0 (.int .i64 (b.1 : Int)) rfl
      have cB1 := B.cell 1 (.int .i64 (b.2 : Int)) rfl
      go_wp2_with fail
      clear cA0 cA1 cB0 cB1
      refine (v1 _).mono ?_
      rintro e w4 ⟨rfl, h4⟩
      have A := A.later h4
      have B := B.later h4
      have W := W.trans (h4.mono W.size)
      have nh4 := h4.size
      clear h4
      have cA0 := A.cell 0 (.int .i64 (a.1 : Int)) rfl
      have cA1 := A.cell 1 (.int .i64 (a.2 : Int)) rfl
      have cB0 := B.cell 0 (.int .i64 (b.1 : Int)) rfl
      have cB1 := B.cell 1 (.int .i64 (b.2 : Int)) rfl
      go_wp2_with fail
      clear cA0 cA1 cB0 cB1
      refine (v2 _).mono ?_
      rintro e w5 ⟨rfl, h5⟩
      have A := A.later h5
      have B := B.later h5
      have W := W.trans (h5.mono W.size)
      have nh5 := h5.size
      clear h5
      have cA0 := A.cell 0 (.int .i64 (a.1 : Int)) rfl
      have cA1 := A.cell 1 (.int .i64 (a.2 : Int)) rfl
      have cB0 := B.cell 0 (.int .i64 (b.1 : Int)) rfl
      have cB1 := B.cell 1 (.int .i64 (b.2 : Int)) rfl
      go_wp2_with fail
      clear cA0 cA1 cB0 cB1
      refine (v3 _).mono ?_
      rintro e w6 ⟨rfl, h6⟩
      have A := A.later h6
      have B := B.later h6
      have W := W.trans (h6.mono W.size)
      have nh6 := h6.size
      clear h6
      go_wp2_with (refine wp_want rfl fun K hK => ?_; refine wp_rw_alloc (P := Try.prog) (t := 63) (lv 0 0) zeroLab rfl ?_)
      intro w7 R7 b7 s7
      refine hK _ _ ?_
      clear hK K
      have A := A.later b7
      have B := B.later b7
      have W := W.trans (b7.mono W.size)
      have nb7 := b7.size
      have C := R7
      clear R7 b7
      go_wp2_with (refine wp_want rfl fun K hK => ?_; refine wp_lab_store C rfl rfl rfl ?_)
      intro w8 R8 g8 z8
      refine hK _ _ ?_
      clear hK K
      have A := A.grown g8 (by omega)
      have B := B.grown g8 (by omega)
      have W := below_row W g8 (by omega) (by omega)
      have C := R8
      clear R8 g8
      have cA0 := A.cell 0 (.int .i64 (a.1 : Int)) rfl
      have cA1 := A.cell 1 (.int .i64 (a.2 : Int)) rfl
      have cB0 := B.cell 0 (.int .i64 (b.1 : Int)) rfl
      have cB1 := B.cell 1 (.int .i64 (b.2 : Int)) rfl
      have cC0 := C.cell 0 (.int .i64 (x)) rfl
      have cC1 := C.cell 1 (.int .i64 (y)) rfl
      go_wp2_with fail
      clear cA0 cA1 cB0 cB1 cC0 cC1
      refine (v4 _).mono ?_
      rintro e w9 ⟨rfl, h9⟩
      have A := A.later h9
      have B := B.later h9
      have C := C.later h9
      have W := W.trans (h9.mono W.size)
      have nh9 := h9.size
      clear h9
      go_wp2_with (refine wp_want rfl fun K hK => ?_; refine wp_rw_alloc (P := Try.prog) (t := 63) (lv 0 0) zeroLab rfl ?_)
      intro w10 R10 b10 s10
      refine hK _ _ ?_
      clear hK K
      have A := A.later b10
      have B := B.later b10
      have C := C.later b10
      have W := W.trans (b10.mono W.size)
      have nb10 := b10.size
      have D := R10
      clear R10 b10
      go_wp2_with (refine wp_want rfl fun K hK => ?_; refine wp_lab_store D rfl rfl rfl ?_)
      intro w11 R11 g11 z11
      refine hK _ _ ?_
      clear hK K
      have A := A.grown g11 (by omega)
      have B := B.grown g11 (by omega)
      have C := C.grown g11 (by omega)
      have W := below_row W g11 (by omega) (by omega)
      have D := R11
      clear R11 g11
      have cA0 := A.cell 0 (.int .i64 (a.1 : Int)) rfl
      have cA1 := A.cell 1 (.int .i64 (a.2 : Int)) rfl
      have cB0 := B.cell 0 (.int .i64 (b.1 : Int)) rfl
      have cB1 := B.cell 1 (.int .i64 (b.2 : Int)) rfl
      have cC0 := C.cell 0 (.int .i64 (x)) rfl
      have cC1 := C.cell 1 (.int .i64 (y)) rfl
      have cD0 := D.cell 0 (.int .i64 (x)) rfl
      have cD1 := D.cell 1 (.int .i64 (y)) rfl
      go_wp2_with fail
      clear cA0 cA1 cB0 cB1 cC0 cC1 cD0 cD1
      have cA0 := A.drew.at_ 0 (.int .i64 (a.1 : Int)) rfl
      have cA1 := A.drew.at_ 1 (.int .i64 (a.2 : Int)) rfl
      have cB0 := B.drew.at_ 0 (.int .i64 (b.1 : Int)) rfl
      have cB1 := B.drew.at_ 1 (.int .i64 (b.2 : Int)) rfl
      have cC0 := C.drew.at_ 0 (.int .i64 (x)) rfl
      have cC1 := C.drew.at_ 1 (.int .i64 (y)) rfl
      have cD0 := D.drew.at_ 0 (.int .i64 (x)) rfl
      have cD1 := D.drew.at_ 1 (.int .i64 (y)) rfl
      have W := W.drew
      have A := A.drew
      have B := B.drew
      have C := C.drew
      have D := D.drew
      refine wp_region_rely 25 (by kernel_rfl) (by kernel_rfl) ?_
      simp only [List.take_succ_cons, List.take_zero]
      generalize World.drew w11 = w12d at *
      repeat (first
        | (refine wpR_step0 ?_ ?_ (fun K hK => ?_); rfl; rfl; go_simp; refine hK _ ?_; clear hK K)
        | (refine wpR_step0 ?_ ?_ (fun K hK => ?_); rfl; rfl; go_simp; apply Exists.intro; refine ⟨fun x => ?_, hK _ ?_⟩; (first | (go_at_call 36; (with_reducible exact m1 _)) | (go_at_call 37; first | (with_reducible exact m2 _) | (with_reducible exact m3 _))); clear hK K))
      refine wpR_nil fun x => ?_
      obtain ⟨w12, w12b⟩ := x
      simp only [close, List.drop_succ_cons, List.drop_zero]
      clear cA0 cA1 cB0 cB1 cC0 cC1 cD0 cD1
      have A := A.later w12b
      have B := B.later w12b
      have C := C.later w12b
      have D := D.later w12b
      have W := W.trans (w12b.mono W.size)
      have nw12b := w12b.size
      clear w12b
      go_upto_region 9 with fail
      go_upto_region 9 with fail
      have cA0 := A.at_ 0 (.int .i64 (a.1 : Int)) rfl
      have cA1 := A.at_ 1 (.int .i64 (a.2 : Int)) rfl
      have cB0 := B.at_ 0 (.int .i64 (b.1 : Int)) rfl
      have cB1 := B.at_ 1 (.int .i64 (b.2 : Int)) rfl
      have cC0 := C.at_ 0 (.int .i64 (x)) rfl
      have cC1 := C.at_ 1 (.int .i64 (y)) rfl
      have cD0 := D.at_ 0 (.int .i64 (x)) rfl
      have cD1 := D.at_ 1 (.int .i64 (y)) rfl
      refine wp_region_text 8 (by kernel_rfl) ?_
      simp only [List.take_succ_cons, List.take_zero]
      repeat (first
        | (refine wpR_step0 ?_ ?_ (fun K hK => ?_); rfl; rfl; go_simp; refine hK _ ?_; clear hK K)
        | (refine wpR_step0 ?_ ?_ (fun K hK => ?_); rfl; rfl; go_simp; apply Exists.intro; refine ⟨fun x => ?_, hK _ ?_⟩; (first | (go_at_call 36; (with_reducible exact m1 _)) | (go_at_call 37; first | (with_reducible exact m2 _) | (with_reducible exact m3 _))); clear hK K))
      refine wpR_nil fun x => ?_
      obtain ⟨w13, w13b⟩ := x
      simp only [close, List.drop_succ_cons, List.drop_zero]
      clear cA0 cA1 cB0 cB1 cC0 cC1 cD0 cD1
      have A := A.later w13b
      have B := B.later w13b
      have C := C.later w13b
      have D := D.later w13b
      have W := W.trans (w13b.mono W.size)
      have nw13b := w13b.size
      clear w13b
      go_wp2_with fail
      have cA0 := A.cell 0 (.int .i64 (a.1 : Int)) rfl
      have cA1 := A.cell 1 (.int .i64 (a.2 : Int)) rfl
      have cB0 := B.cell 0 (.int .i64 (b.1 : Int)) rfl
      have cB1 := B.cell 1 (.int .i64 (b.2 : Int)) rfl
      have cC0 := C.cell 0 (.int .i64 (x)) rfl
      have cC1 := C.cell 1 (.int .i64 (y)) rfl
      have cD0 := D.cell 0 (.int .i64 (x)) rfl
      have cD1 := D.cell 1 (.int .i64 (y)) rfl
      go_wp2_with fail
      clear cA0 cA1 cB0 cB1 cC0 cC1 cD0 cD1
      have cA0 := A.drew.at_ 0 (.int .i64 (a.1 : Int)) rfl
      have cA1 := A.drew.at_ 1 (.int .i64 (a.2 : Int)) rfl
      have cB0 := B.drew.at_ 0 (.int .i64 (b.1 : Int)) rfl
      have cB1 := B.drew.at_ 1 (.int .i64 (b.2 : Int)) rfl
      have cC0 := C.drew.at_ 0 (.int .i64 (x)) rfl
      have cC1 := C.drew.at_ 1 (.int .i64 (y)) rfl
      have cD0 := D.drew.at_ 0 (.int .i64 (x)) rfl
      have cD1 := D.drew.at_ 1 (.int .i64 (y)) rfl
      have W := W.drew
      have A := A.drew
      have B := B.drew
      have C := C.drew
      have D := D.drew
      refine wp_region_rely 35 (by kernel_rfl) (by kernel_rfl) ?_
      simp only [List.take_succ_cons, List.take_zero]
      generalize World.drew w13 = w14d at *
      repeat (first
        | (refine wpR_step0 ?_ ?_ (fun K hK => ?_); rfl; rfl; go_simp; refine hK _ ?_; clear hK K)
        | (refine wpR_step0 ?_ ?_ (fun K hK => ?_); rfl; rfl; go_simp; apply Exists.intro; refine ⟨fun x => ?_, hK _ ?_⟩; (first | (go_at_call 38; first | (with_reducible exact u1 _)) | (go_at_call 39; first | (with_reducible exact u2 _)) | (go_at_call 44; first | (with_reducible exact u3 _)) | (go_at_call 45; first | (with_reducible exact u4 _)) | (go_at_call 40; first | (with_reducible exact u5 _)) | (go_at_call 41; first | (with_reducible exact u6 _)) | (go_at_call 42; first | (with_reducible exact u7 _)) | (go_at_call 43; first | (with_reducible exact u8 _))); clear hK K))
      refine wpR_nil fun x => ?_
      obtain ⟨w14, w14b⟩ := x
      simp only [close, List.drop_succ_cons, List.drop_zero]
      clear cA0 cA1 cB0 cB1 cC0 cC1 cD0 cD1
      have A := A.later w14b
      have B := B.later w14b
      have C := C.later w14b
      have D := D.later w14b
      have W := W.trans (w14b.mono W.size)
      have nw14b := w14b.size
      clear w14b
      go_wp2_with fail
      go_ret
      exact ⟨rfl, W⟩

set_option maxRecDepth 100000 in
theorem open_lab {H : Type} {enc : TypeId × Value → H} {W : World} {v : Value} {d : DataW H} {ps : List MemPlace} {b0 : Nat}
    (hval : Value.okWide Try.prog W .any b0 63 v) (hd : DataW.Trod enc Try.prog W 0 (fun _ => true) true 63 v d ps) : ∃ a b : Int, v = lv a b := by
  obtain ⟨v0, v1, y0, y1, n, rfl, _, _, h0, h1⟩ := Joins.open_agg2 Try.underlying63 (by kernel_rfl) (by kernel_rfl) hval hd
  obtain ⟨a, ha, _, wa⟩ := DataW.trod_int Try.underlying3 h0
  obtain ⟨b, hb, _, wb⟩ := DataW.trod_int Try.underlying3 h1
  simp only [List.cons.injEq, and_true] at ha hb
  subst ha hb
  exact ⟨a, b, rfl⟩
theorem labAll_row (a b a' b' n : Int) (W : World) (wf : (Lit.int .u8 n).wf = true) : Calls Try.prog 9 #[lv a b, lv a' b', .int .u8 n] W fun e w' => e = .returned (.bool true) ∧ Below W.heap.size W w' := by
  obtain ⟨c, rfl⟩ := wf_u8 wf
  exact labAll_law a b a' b' c.toNat W c.toNat_lt
end Go.Proofs.Ytibpipppabommaa.Cl
