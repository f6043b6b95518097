/- The law LabelJoins (printed by mklab9.py). -/
import Derived.Test.YtibpipppabommaaLab8
set_option linter.unusedVariables false
set_option linter.unusedSimpArgs false
namespace Go.Proofs.Ytibpipppabommaa.Cl
open Go Go.Proofs Go.RowKit Fl Rely

set_option maxRecDepth 100000 in
set_option maxHeartbeats 4000000 in
theorem labJoins_law (n0 n1 n2 : Nat) (w : World) (l0 : n0 < 256) (l1 : n1 < 256) (l2 : n2 < 256) : Calls Try.prog 14 #[.int .u8 n0, .int .u8 n1, .int .u8 n2] w fun e w' => e = .returned (.bool true) ∧ Below w.heap.size w w' := by
  obtain ⟨a, ka, fa⟩ := lawOf_p n0 l0
  obtain ⟨b, kb, fb⟩ := lawOf_p n1 l1
  obtain ⟨c, kc, fc⟩ := lawOf_p n2 l2
  obtain ⟨J1, hJ1⟩ : ∃ x : Nat × Nat, x = jn a b := ⟨_, rfl⟩
  have kJ1 : OkP J1 := by rw [hJ1]; exact jn_ok ka kb
  have u1 : ∀ w, Calls Try.prog 40 #[lvp a, lvp b] w fun e w' => e = .returned (lvp J1) ∧ Below w.heap.size w w' := fun w => by
    have h := join_p a b ka kb w
    rwa [show jn a b = J1 from hJ1.symm] at h
  obtain ⟨J2, hJ2⟩ : ∃ x : Nat × Nat, x = jn b c := ⟨_, rfl⟩
  have kJ2 : OkP J2 := by rw [hJ2]; exact jn_ok kb kc
  have u2 : ∀ w, Calls Try.prog 40 #[lvp b, lvp c] w fun e w' => e = .returned (lvp J2) ∧ Below w.heap.size w w' := fun w => by
    have h := join_p b c kb kc w
    rwa [show jn b c = J2 from hJ2.symm] at h
  obtain ⟨JA, hJA⟩ : ∃ x : Nat × Nat, x = jn a c := ⟨_, rfl⟩
  have kJA : OkP JA := by rw [hJA]; exact jn_ok ka kc
  have u3 : ∀ w, Calls Try.prog 40 #[lvp a, lvp c] w fun e w' => e = .returned (lvp JA) ∧ Below w.heap.size w w' := fun w => by
    have h := join_p a c ka kc w
    rwa [show jn a c = JA from hJA.symm] at h
  obtain ⟨K, hK⟩ : ∃ x : Nat × Nat, x = jn J1 c := ⟨_, rfl⟩
  have kK : OkP K := by rw [hK]; exact jn_ok kJ1 kc
  have u4 : ∀ w, Calls Try.prog 40 #[lvp J1, lvp c] w fun e w' => e = .returned (lvp K) ∧ Below w.heap.size w w' := fun w => by
    have h := join_p J1 c kJ1 kc w
    rwa [show jn J1 c = K from hK.symm] at h
  have u5 : ∀ w, Calls Try.prog 40 #[lvp a, lvp J2] w fun e w' => e = .returned (lvp K) ∧ Below w.heap.size w w' := fun w => by
    have h := join_p a J2 ka kJ2 w
    rwa [show jn a J2 = K from by rw [hK, hJ1, hJ2, jn_assoc]] at h
  obtain ⟨M1, hM1⟩ : ∃ x : Nat × Nat, x = mt a b := ⟨_, rfl⟩
  have kM1 : OkP M1 := by rw [hM1]; exact mt_ok ka kb
  have u6 : ∀ w, Calls Try.prog 42 #[lvp a, lvp b] w fun e w' => e = .returned (lvp M1) ∧ Below w.heap.size w w' := fun w => by
    have h := meet_p a b ka kb w
    rwa [show mt a b = M1 from hM1.symm] at h
  obtain ⟨M2, hM2⟩ : ∃ x : Nat × Nat, x = mt b c := ⟨_, rfl⟩
  have kM2 : OkP M2 := by rw [hM2]; exact mt_ok kb kc
  have u7 : ∀ w, Calls Try.prog 42 #[lvp b, lvp c] w fun e w' => e = .returned (lvp M2) ∧ Below w.heap.size w w' := fun w => by
    have h := meet_p b c kb kc w
    rwa [show mt b c = M2 from hM2.symm] at h
  obtain ⟨MA, hMA⟩ : ∃ x : Nat × Nat, x = mt a c := ⟨_, rfl⟩
  have kMA : OkP MA := by rw [hMA]; exact mt_ok ka kc
  have u8 : ∀ w, Calls Try.prog 42 #[lvp a, lvp c] w fun e w' => e = .returned (lvp MA) ∧ Below w.heap.size w w' := fun w => by
    have h := meet_p a c ka kc w
    rwa [show mt a c = MA from hMA.symm] at h
  obtain ⟨N, hN⟩ : ∃ x : Nat × Nat, x = mt M1 c := ⟨_, rfl⟩
  have kN : OkP N := by rw [hN]; exact mt_ok kM1 kc
  have u9 : ∀ w, Calls Try.prog 42 #[lvp M1, lvp c] w fun e w' => e = .returned (lvp N) ∧ Below w.heap.size w w' := fun w => by
    have h := meet_p M1 c kM1 kc w
    rwa [show mt M1 c = N from hN.symm] at h
  have u10 : ∀ w, Calls Try.prog 42 #[lvp a, lvp M2] w fun e w' => e = .returned (lvp N) ∧ Below w.heap.size w w' := fun w => by
    have h := meet_p a M2 ka kM2 w
    rwa [show mt a M2 = N from by rw [hN, hM1, hM2, mt_assoc]] at h
  have u11 : ∀ w, Calls Try.prog 40 #[lvp a, lvp a] w fun e w' => e = .returned (lvp a) ∧ Below w.heap.size w w' := fun w => by
    have h := join_p a a ka ka w
    rwa [show jn a a = a from jn_self a] at h
  have u12 : ∀ w, Calls Try.prog 42 #[lvp a, lvp a] w fun e w' => e = .returned (lvp a) ∧ Below w.heap.size w w' := fun w => by
    have h := meet_p a a ka ka w
    rwa [show mt a a = a from mt_self a] at h
  have u13 : ∀ w, Calls Try.prog 42 #[lvp b, lvp a] w fun e w' => e = .returned (lvp M1) ∧ Below w.heap.size w w' := fun w => by
    have h := meet_p b a kb ka w
    rwa [show mt b a = M1 from by rw [hM1, mt_comm]] at h
  obtain ⟨G, hG⟩ : ∃ x : Nat × Nat, x = mt a J2 := ⟨_, rfl⟩
  have kG : OkP G := by rw [hG]; exact mt_ok ka kJ2
  have u14 : ∀ w, Calls Try.prog 42 #[lvp a, lvp J2] w fun e w' => e = .returned (lvp G) ∧ Below w.heap.size w w' := fun w => by
    have h := meet_p a J2 ka kJ2 w
    rwa [show mt a J2 = G from hG.symm] at h
  have u15 : ∀ w, Calls Try.prog 40 #[lvp M1, lvp MA] w fun e w' => e = .returned (lvp G) ∧ Below w.heap.size w w' := fun w => by
    have h := join_p M1 MA kM1 kMA w
    rwa [show jn M1 MA = G from by rw [hG, hM1, hMA, hJ2, mt_jn]] at h
  have eK := fun w => ne_p K K false (by simp) w
  have eN := fun w => ne_p N N false (by simp) w
  have ea := fun w => eq_p a a true (by simp) w
  have eM1 := fun w => eq_p M1 M1 true (by simp) w
  have eG := fun w => eq_p G G true (by simp) w
  obtain ⟨p, hp⟩ : ∃ x, ab a b = x := ⟨_, rfl⟩
  have u16 : ∀ w, Calls Try.prog 38 #[lvp a, lvp b] w fun e w' => e = .returned (.bool p) ∧ Below w.heap.size w w' := fun w => by
    have h := above_p a b ka kb w
    rwa [show ab a b = p from hp] at h
  have u61 : p = true → ∀ w, Calls Try.prog 38 #[lvp JA, lvp J2] w fun e w' => e = .returned (.bool true) ∧ Below w.heap.size w w' := fun h w => by
    have k := above_p JA J2 kJA kJ2 w
    rwa [show ab JA J2 = true from by rw [hJA, hJ2]; exact ab_jn_mono c (hp.trans h)] at k
  have u62 : p = true → ∀ w, Calls Try.prog 38 #[lvp MA, lvp M2] w fun e w' => e = .returned (.bool true) ∧ Below w.heap.size w w' := fun h w => by
    have k := above_p MA M2 kMA kM2 w
    rwa [show ab MA M2 = true from by rw [hMA, hM2]; exact ab_mt_mono c (hp.trans h)] at k
  clear hp
  clear hJ1 hJ2 hJA hK hM1 hM2 hMA hN hG
  cases p
  all_goals
    first
      | (have v61 := u61 rfl
         have v62 := u62 rfl
         clear u61 u62)
      | clear u61 u62
    go_enter Try.func14, Try.ntmps14
    go_wp2_with fail
    refine (labBegun_any _).mono ?_
    rintro e w1 ⟨rfl, h1⟩
    have W := h1
    have nh1 := h1.size
    clear h1
    go_wp2_with fail
    refine (fa _).mono ?_
    rintro e w2 ⟨rfl, h2⟩
    have W := W.trans (h2.mono W.size)
    have nh2 := h2.size
    clear h2
    go_wp2_with fail
    refine (fb _).mono ?_
    rintro e w3 ⟨rfl, h3⟩
    have W := W.trans (h3.mono W.size)
    have nh3 := h3.size
    clear h3
    go_wp2_with fail
    refine (fc _).mono ?_
    rintro e w4 ⟨rfl, h4⟩
    have W := W.trans (h4.mono W.size)
    have nh4 := h4.size
    clear h4
    clear fa fb fc
    go_wp2_with (refine wp_want rfl fun K hK => ?_; refine wp_rw_alloc (P := Try.prog) (t := 63) (lv 0 0) zeroLab rfl ?_)
    intro w5 R5 b5 s5
    refine hK _ _ ?_
    clear hK K
    have W := W.trans (b5.mono W.size)
    have nb5 := b5.size
    have A := R5
    clear R5 b5
    go_wp2_with (refine wp_want rfl fun K hK => ?_; refine wp_rw_alloc (P := Try.prog) (t := 63) (lv 0 0) zeroLab rfl ?_)
    intro w6 R6 b6 s6
    refine hK _ _ ?_
    clear hK K
    have A := A.later b6
    have W := W.trans (b6.mono W.size)
    have nb6 := b6.size
    have B := R6
    clear R6 b6
    go_wp2_with (refine wp_want rfl fun K hK => ?_; refine wp_rw_alloc (P := Try.prog) (t := 63) (lv 0 0) zeroLab rfl ?_)
    intro w7 R7 b7 s7
    refine hK _ _ ?_
    clear hK K
    have A := A.later b7
    have B := B.later b7
    have W := W.trans (b7.mono W.size)
    have nb7 := b7.size
    have C := R7
    clear R7 b7
    go_wp2_with (refine wp_want rfl fun K hK => ?_; refine wp_lab_store A rfl rfl rfl ?_)
    intro w8 R8 g8 z8
    refine hK _ _ ?_
    clear hK K
    have B := B.grown g8 (by omega)
    have C := C.grown g8 (by omega)
    have W := below_row W g8 (by omega) (by omega)
    have A := R8
    clear R8 g8
    go_wp2_with (refine wp_want rfl fun K hK => ?_; refine wp_lab_store B rfl rfl rfl ?_)
    intro w9 R9 g9 z9
    refine hK _ _ ?_
    clear hK K
    have A := A.grown g9 (by omega)
    have C := C.grown g9 (by omega)
    have W := below_row W g9 (by omega) (by omega)
    have B := R9
    clear R9 g9
    go_wp2_with (refine wp_want rfl fun K hK => ?_; refine wp_lab_store C rfl rfl rfl ?_)
    intro w10 R10 g10 z10
    refine hK _ _ ?_
    clear hK K
    have A := A.grown g10 (by omega)
    have B := B.grown g10 (by omega)
    have W := below_row W g10 (by omega) (by omega)
    have C := R10
    clear R10 g10
    have cA0 := A.cell 0 (.int .i64 (a.1 : Int)) rfl
    have cA1 := A.cell 1 (.int .i64 (a.2 : Int)) rfl
    have cB0 := B.cell 0 (.int .i64 (b.1 : Int)) rfl
    have cB1 := B.cell 1 (.int .i64 (b.2 : Int)) rfl
    have cC0 := C.cell 0 (.int .i64 (c.1 : Int)) rfl
    have cC1 := C.cell 1 (.int .i64 (c.2 : Int)) rfl
    go_wp2_with fail
    clear cA0 cA1 cB0 cB1 cC0 cC1
    have cA0 := A.drew.at_ 0 (.int .i64 (a.1 : Int)) rfl
    have cA1 := A.drew.at_ 1 (.int .i64 (a.2 : Int)) rfl
    have cB0 := B.drew.at_ 0 (.int .i64 (b.1 : Int)) rfl
    have cB1 := B.drew.at_ 1 (.int .i64 (b.2 : Int)) rfl
    have cC0 := C.drew.at_ 0 (.int .i64 (c.1 : Int)) rfl
    have cC1 := C.drew.at_ 1 (.int .i64 (c.2 : Int)) rfl
    have W := W.drew
    have A := A.drew
    have B := B.drew
    have C := C.drew
    refine wp_region_rely 24 (by kernel_rfl) (by kernel_rfl) ?_
    simp only [List.take_succ_cons, List.take_zero]
    generalize World.drew w10 = w11d at *
    repeat (first
      | (refine wpR_step0 ?_ ?_ (fun K hK => ?_); rfl; rfl; go_simp; refine hK _ ?_; clear hK K)
      | (refine wpR_step0 ?_ ?_ (fun K hK => ?_); rfl; rfl; go_simp; apply Exists.intro; refine ⟨fun x => ?_, hK _ ?_⟩; (first | (go_at_call 40; first | (with_reducible exact u1 _) | (with_reducible exact u2 _) | (with_reducible exact u3 _) | (with_reducible exact u4 _) | (with_reducible exact u5 _) | (with_reducible exact u11 _) | (with_reducible exact u15 _)) | (go_at_call 42; first | (with_reducible exact u6 _) | (with_reducible exact u7 _) | (with_reducible exact u8 _) | (with_reducible exact u9 _) | (with_reducible exact u10 _) | (with_reducible exact u12 _) | (with_reducible exact u13 _) | (with_reducible exact u14 _)) | (go_at_call 38; first | (with_reducible exact u16 _) | (with_reducible exact v61 _) | (with_reducible exact v62 _))); clear hK K))
    refine wpR_nil fun x => ?_
    obtain ⟨w11, w11b⟩ := x
    simp only [close, List.drop_succ_cons, List.drop_zero]
    clear cA0 cA1 cB0 cB1 cC0 cC1
    have A := A.later w11b
    have B := B.later w11b
    have C := C.later w11b
    have W := W.trans (w11b.mono W.size)
    have nw11b := w11b.size
    clear w11b
    have cA0 := A.cell 0 (.int .i64 (a.1 : Int)) rfl
    have cA1 := A.cell 1 (.int .i64 (a.2 : Int)) rfl
    have cB0 := B.cell 0 (.int .i64 (b.1 : Int)) rfl
    have cB1 := B.cell 1 (.int .i64 (b.2 : Int)) rfl
    have cC0 := C.cell 0 (.int .i64 (c.1 : Int)) rfl
    have cC1 := C.cell 1 (.int .i64 (c.2 : Int)) rfl
    go_wp2_with fail
    clear cA0 cA1 cB0 cB1 cC0 cC1
    have cA0 := A.drew.at_ 0 (.int .i64 (a.1 : Int)) rfl
    have cA1 := A.drew.at_ 1 (.int .i64 (a.2 : Int)) rfl
    have cB0 := B.drew.at_ 0 (.int .i64 (b.1 : Int)) rfl
    have cB1 := B.drew.at_ 1 (.int .i64 (b.2 : Int)) rfl
    have cC0 := C.drew.at_ 0 (.int .i64 (c.1 : Int)) rfl
    have cC1 := C.drew.at_ 1 (.int .i64 (c.2 : Int)) rfl
    have W := W.drew
    have A := A.drew
    have B := B.drew
    have C := C.drew
    refine wp_region_rely 23 (by kernel_rfl) (by kernel_rfl) ?_
    simp only [List.take_succ_cons, List.take_zero]
    generalize World.drew w11 = w12d at *
    repeat (first
      | (refine wpR_step0 ?_ ?_ (fun K hK => ?_); rfl; rfl; go_simp; refine hK _ ?_; clear hK K)
      | (refine wpR_step0 ?_ ?_ (fun K hK => ?_); rfl; rfl; go_simp; apply Exists.intro; refine ⟨fun x => ?_, hK _ ?_⟩; (first | (go_at_call 40; first | (with_reducible exact u1 _) | (with_reducible exact u2 _) | (with_reducible exact u3 _) | (with_reducible exact u4 _) | (with_reducible exact u5 _) | (with_reducible exact u11 _) | (with_reducible exact u15 _)) | (go_at_call 42; first | (with_reducible exact u6 _) | (with_reducible exact u7 _) | (with_reducible exact u8 _) | (with_reducible exact u9 _) | (with_reducible exact u10 _) | (with_reducible exact u12 _) | (with_reducible exact u13 _) | (with_reducible exact u14 _)) | (go_at_call 38; first | (with_reducible exact u16 _) | (with_reducible exact v61 _) | (with_reducible exact v62 _))); clear hK K))
    refine wpR_nil fun x => ?_
    obtain ⟨w12, w12b⟩ := x
    simp only [close, List.drop_succ_cons, List.drop_zero]
    clear cA0 cA1 cB0 cB1 cC0 cC1
    have A := A.later w12b
    have B := B.later w12b
    have C := C.later w12b
    have W := W.trans (w12b.mono W.size)
    have nw12b := w12b.size
    clear w12b
    have cA0 := A.cell 0 (.int .i64 (a.1 : Int)) rfl
    have cA1 := A.cell 1 (.int .i64 (a.2 : Int)) rfl
    have cB0 := B.cell 0 (.int .i64 (b.1 : Int)) rfl
    have cB1 := B.cell 1 (.int .i64 (b.2 : Int)) rfl
    have cC0 := C.cell 0 (.int .i64 (c.1 : Int)) rfl
    have cC1 := C.cell 1 (.int .i64 (c.2 : Int)) rfl
    go_wp2_with fail
    clear cA0 cA1 cB0 cB1 cC0 cC1
    have cA0 := A.drew.at_ 0 (.int .i64 (a.1 : Int)) rfl
    have cA1 := A.drew.at_ 1 (.int .i64 (a.2 : Int)) rfl
    have cB0 := B.drew.at_ 0 (.int .i64 (b.1 : Int)) rfl
    have cB1 := B.drew.at_ 1 (.int .i64 (b.2 : Int)) rfl
    have cC0 := C.drew.at_ 0 (.int .i64 (c.1 : Int)) rfl
    have cC1 := C.drew.at_ 1 (.int .i64 (c.2 : Int)) rfl
    have W := W.drew
    have A := A.drew
    have B := B.drew
    have C := C.drew
    refine wp_region_rely 37 (by kernel_rfl) (by kernel_rfl) ?_
    simp only [List.take_succ_cons, List.take_zero]
    generalize World.drew w12 = w13d at *
    repeat (first
      | (refine wpR_step0 ?_ ?_ (fun K hK => ?_); rfl; rfl; go_simp; refine hK _ ?_; clear hK K)
      | (refine wpR_step0 ?_ ?_ (fun K hK => ?_); rfl; rfl; go_simp; apply Exists.intro; refine ⟨fun x => ?_, hK _ ?_⟩; (first | (go_at_call 40; first | (with_reducible exact u1 _) | (with_reducible exact u2 _) | (with_reducible exact u3 _) | (with_reducible exact u4 _) | (with_reducible exact u5 _) | (with_reducible exact u11 _) | (with_reducible exact u15 _)) | (go_at_call 42; first | (with_reducible exact u6 _) | (with_reducible exact u7 _) | (with_reducible exact u8 _) | (with_reducible exact u9 _) | (with_reducible exact u10 _) | (with_reducible exact u12 _) | (with_reducible exact u13 _) | (with_reducible exact u14 _)) | (go_at_call 38; first | (with_reducible exact u16 _) | (with_reducible exact v61 _) | (with_reducible exact v62 _))); clear hK K))
    refine wpR_nil fun x => ?_
    obtain ⟨w13, w13b⟩ := x
    simp only [close, List.drop_succ_cons, List.drop_zero]
    clear cA0 cA1 cB0 cB1 cC0 cC1
    have A := A.later w13b
    have B := B.later w13b
    have C := C.later w13b
    have W := W.trans (w13b.mono W.size)
    have nw13b := w13b.size
    clear w13b
    go_wp2_with fail
    go_ret
    exact ⟨rfl, W⟩

theorem labJoins_row (n0 n1 n2 : Int) (W : World) (wf0 : (Lit.int .u8 n0).wf = true) (wf1 : (Lit.int .u8 n1).wf = true) (wf2 : (Lit.int .u8 n2).wf = true) : Calls Try.prog 14 #[.int .u8 n0, .int .u8 n1, .int .u8 n2] W fun e w' => e = .returned (.bool true) ∧ Below W.heap.size W w' := by
  obtain ⟨b0, rfl⟩ := wf_u8 wf0
  obtain ⟨b1, rfl⟩ := wf_u8 wf1
  obtain ⟨b2, rfl⟩ := wf_u8 wf2
  exact labJoins_law b0.toNat b1.toNat b2.toNat W b0.toNat_lt b1.toNat_lt b2.toNat_lt
end Go.Proofs.Ytibpipppabommaa.Cl
