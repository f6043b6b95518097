/- The law LabelBytes (printed by mklab9.py). -/
import Derived.Test.YtibpipppabommaaLab8
set_option linter.unusedVariables false
set_option linter.unusedSimpArgs false
namespace Go.Proofs.Ytibpipppabommaa.Cl
open Go Go.Proofs Go.RowKit Fl Rely

set_option maxRecDepth 100000 in
set_option maxHeartbeats 4000000 in
theorem labBytes_law (n0 : Nat) (w : World) (l0 : n0 < 256) : Calls Try.prog 12 #[.int .u8 n0] w fun e w' => e = .returned (.bool true) ∧ Below w.heap.size w w' := by
  by_cases h : n0 < 64
  · have ht : takeLV n0 = .tuple #[lv ((n0 / 16 : Nat) : Int) ((n0 % 16 : Nat) : Int), .bool true] := takeLV_yes h
    have hok : labOK ((n0 / 16 : Nat) : Int) ((n0 % 16 : Nat) : Int) = true := labOK_mk (by omega) (by omega)
    have hput : putLV ((n0 / 16 : Nat) : Int) ((n0 % 16 : Nat) : Int) = .tuple #[.int .u8 n0, .bool true] := by rw [putLV_yes hok, show 16 * ((n0 / 16 : Nat) : Int) + ((n0 % 16 : Nat) : Int) = (n0 : Int) from by omega]
    have ct := fun w => labTake_any n0 l0 w
    have cp := fun w => labPut_any ((n0 / 16 : Nat) : Int) ((n0 % 16 : Nat) : Int) w
    have cm := fun w => labMay_any ((n0 / 16 : Nat) : Int) ((n0 % 16 : Nat) : Int) w
    rw [ht] at ct
    rw [hput] at cp
    rw [hok] at cm
    clear ht hok hput
    generalize ((n0 / 16 : Nat) : Int) = x at *
    generalize ((n0 % 16 : Nat) : Int) = y at *
    have hlt : (n0 : Int) < 64 := by omega
    go_enter Try.func12, Try.ntmps12
    go_wp2_with fail
    refine (labBegun_any _).mono ?_
    rintro e w1 ⟨rfl, h1⟩
    have W := h1
    have nh1 := h1.size
    clear h1
    go_wp2_with fail
    refine (ct _).mono ?_
    rintro e w2 ⟨rfl, h2⟩
    have W := W.trans (h2.mono W.size)
    have nh2 := h2.size
    clear h2
    go_wp2_with (refine wp_want rfl fun K hK => ?_; refine wp_rw_alloc (P := Try.prog) (t := 63) (lv 0 0) zeroLab rfl ?_)
    intro w3 R3 b3 s3
    refine hK _ _ ?_
    clear hK K
    have W := W.trans (b3.mono W.size)
    have nb3 := b3.size
    have C := R3
    clear R3 b3
    go_wp2_with (refine wp_want rfl fun K hK => ?_; refine wp_lab_store C rfl rfl rfl ?_)
    intro w4 R4 g4 z4
    refine hK _ _ ?_
    clear hK K
    have W := below_row W g4 (by omega) (by omega)
    have C := R4
    clear R4 g4
    have cC0 := C.cell 0 (.int .i64 (x)) rfl
    have cC1 := C.cell 1 (.int .i64 (y)) rfl
    go_wp2_with fail
    clear cC0 cC1
    refine (cp _).mono ?_
    rintro e w5 ⟨rfl, h5⟩
    have C := C.later h5
    have W := W.trans (h5.mono W.size)
    have nh5 := h5.size
    clear h5
    go_upto_region 7 with fail
    have cC0 := C.at_ 0 (.int .i64 (x)) rfl
    have cC1 := C.at_ 1 (.int .i64 (y)) rfl
    refine wp_region_text 15 (by kernel_rfl) ?_
    simp only [List.take_succ_cons, List.take_zero]
    repeat (first
      | (refine wpR_step0 ?_ ?_ (fun K hK => ?_); rfl; rfl; go_simp; refine hK _ ?_; clear hK K)
      | (refine wpR_step0 ?_ ?_ (fun K hK => ?_); rfl; rfl; go_simp; apply Exists.intro; refine ⟨fun x => ?_, hK _ ?_⟩; (first | (go_at_call 36; exact cm _)); clear hK K))
    refine wpR_nil fun x => ?_
    obtain ⟨w6, w6b⟩ := x
    simp only [close, List.drop_succ_cons, List.drop_zero]
    clear cC0 cC1
    have C := C.later w6b
    have W := W.trans (w6b.mono W.size)
    have nw6b := w6b.size
    clear w6b
    go_wp2_with fail
    go_ret
    exact ⟨rfl, W⟩
  · have ht : takeLV n0 = .tuple #[lv 0 0, .bool false] := takeLV_no h
    have ct := fun w => labTake_any n0 l0 w
    rw [ht] at ct
    clear ht
    have hge : (64 : Int) ≤ (n0 : Int) := by omega
    have hge' : 64 ≤ n0 := by omega
    have q := eq_lv 0 0 0 0
    go_enter Try.func12, Try.ntmps12
    go_wp2_with fail
    refine (labBegun_any _).mono ?_
    rintro e w1 ⟨rfl, h1⟩
    have W := h1
    have nh1 := h1.size
    clear h1
    go_wp2_with fail
    refine (ct _).mono ?_
    rintro e w2 ⟨rfl, h2⟩
    have W := W.trans (h2.mono W.size)
    have nh2 := h2.size
    clear h2
    go_wp2_with (refine wp_want rfl fun K hK => ?_; refine wp_rw_alloc (P := Try.prog) (t := 63) (lv 0 0) zeroLab rfl ?_)
    intro w3 R3 b3 s3
    refine hK _ _ ?_
    clear hK K
    have W := W.trans (b3.mono W.size)
    have nb3 := b3.size
    have C := R3
    clear R3 b3
    go_wp2_with (refine wp_want rfl fun K hK => ?_; refine wp_lab_store C rfl rfl rfl ?_)
    intro w4 R4 g4 z4
    refine hK _ _ ?_
    clear hK K
    have W := below_row W g4 (by omega) (by omega)
    have C := R4
    clear R4 g4
    have cC0 := C.cell 0 (.int .i64 (0)) rfl
    have cC1 := C.cell 1 (.int .i64 (0)) rfl
    go_wp2_with fail
    clear cC0 cC1
    go_ret
    exact ⟨rfl, W⟩

theorem labBytes_row (n0 : Int) (W : World) (wf0 : (Lit.int .u8 n0).wf = true) : Calls Try.prog 12 #[.int .u8 n0] W fun e w' => e = .returned (.bool true) ∧ Below W.heap.size W w' := by
  obtain ⟨b0, rfl⟩ := wf_u8 wf0
  exact labBytes_law b0.toNat W b0.toNat_lt
end Go.Proofs.Ytibpipppabommaa.Cl
