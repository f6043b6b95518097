/- The law LabelLine (printed by mklab9.py). -/
import Derived.Test.YtibpipppabommaaLab8
set_option linter.unusedVariables false
set_option linter.unusedSimpArgs false
namespace Go.Proofs.Ytibpipppabommaa.Cl
open Go Go.Proofs Go.RowKit Fl Rely

theorem line_ways : ∀ p q r s t : Bool, (t = true → p = false) → (p = true → r = true → s = true) → (p = true → q = true → False) →
    (p = false ∧ t = false ∧ q = false) ∨ (p = false ∧ t = false ∧ q = true) ∨ (p = false ∧ t = true ∧ q = false) ∨ (p = false ∧ t = true ∧ q = true) ∨ (p = true ∧ q = false ∧ t = false ∧ r = false) ∨ (p = true ∧ q = false ∧ t = false ∧ r = true ∧ s = true) := by
  intro p q r s t; cases p <;> cases q <;> cases r <;> cases s <;> cases t <;> simp

set_option maxRecDepth 100000 in
set_option maxHeartbeats 4000000 in
theorem labLine_law (n0 n1 n2 : Nat) (w : World) (l0 : n0 < 256) (l1 : n1 < 256) (l2 : n2 < 256) : Calls Try.prog 11 #[.int .u8 n0, .int .u8 n1, .int .u8 n2] w fun e w' => e = .returned (.bool true) ∧ Below w.heap.size w w' := by
  obtain ⟨a, ka, fa⟩ := lawOf_p n0 l0
  obtain ⟨b, kb, fb⟩ := lawOf_p n1 l1
  obtain ⟨c, kc, fc⟩ := lawOf_p n2 l2
  obtain ⟨p, hp⟩ : ∃ x, ls a b = x := ⟨_, rfl⟩
  obtain ⟨q, hq⟩ : ∃ x, ls b a = x := ⟨_, rfl⟩
  obtain ⟨r, hr⟩ : ∃ x, ls b c = x := ⟨_, rfl⟩
  obtain ⟨s, hs⟩ : ∃ x, ls a c = x := ⟨_, rfl⟩
  obtain ⟨t, ht⟩ : ∃ x, ab a b = x := ⟨_, rfl⟩
  have u1 : ∀ w, Calls Try.prog 44 #[lvp a, lvp b] w fun e w' => e = .returned (.bool p) ∧ Below w.heap.size w w' := fun w => by
    have h := less_p a b ka kb w
    rwa [show ls a b = p from hp] at h
  have u2 : ∀ w, Calls Try.prog 44 #[lvp b, lvp a] w fun e w' => e = .returned (.bool q) ∧ Below w.heap.size w w' := fun w => by
    have h := less_p b a kb ka w
    rwa [show ls b a = q from hq] at h
  have u3 : ∀ w, Calls Try.prog 44 #[lvp b, lvp c] w fun e w' => e = .returned (.bool r) ∧ Below w.heap.size w w' := fun w => by
    have h := less_p b c kb kc w
    rwa [show ls b c = r from hr] at h
  have u4 : ∀ w, Calls Try.prog 44 #[lvp a, lvp c] w fun e w' => e = .returned (.bool s) ∧ Below w.heap.size w w' := fun w => by
    have h := less_p a c ka kc w
    rwa [show ls a c = s from hs] at h
  have u5 : ∀ w, Calls Try.prog 38 #[lvp a, lvp b] w fun e w' => e = .returned (.bool t) ∧ Below w.heap.size w w' := fun w => by
    have h := above_p a b ka kb w
    rwa [show ab a b = t from ht] at h
  have u6 : ∀ w, Calls Try.prog 44 #[lvp a, lvp a] w fun e w' => e = .returned (.bool false) ∧ Below w.heap.size w w' := fun w => by
    have h := less_p a a ka ka w
    rwa [show ls a a = false from ls_self a] at h
  have e1 := fun w => ne_p a b (p != q) (by rw [← hp, ← hq, ls_xor]) w
  have x1 : t = true → p = false := fun h => by subst hp; subst ht; exact ab_not_ls ka kb h
  have x2 : p = true → r = true → s = true := fun h h' => by subst hp; subst hr; subst hs; exact ls_trans h h'
  have x3 : p = true → q = true → False := fun h h' => by subst hp; subst hq; have := ls_trans h h'; rw [ls_self] at this; cases this
  clear hp hq hr hs ht
  have hways := line_ways p q r s t x1 x2 x3
  clear x1 x2 x3
  rcases hways with ⟨rfl, rfl, rfl⟩ | ⟨rfl, rfl, rfl⟩ | ⟨rfl, rfl, rfl⟩ | ⟨rfl, rfl, rfl⟩ | ⟨rfl, rfl, rfl, rfl⟩ | ⟨rfl, rfl, rfl, rfl, rfl⟩
  all_goals
    go_enter Try.func11, Try.ntmps11
    go_wp2_with fail
    refine (labBegun_any _).mono ?_
    rintro e w1 ⟨rfl, h1⟩
    have W := h1
    have nh1 := h1.size
    clear h1
    go_wp2_with fail
    refine (fa _).mono ?_
    rintro e w2 ⟨rfl, h2⟩
    have W := W.trans (h2.mono W.size)
    have nh2 := h2.size
    clear h2
    go_wp2_with fail
    refine (fb _).mono ?_
    rintro e w3 ⟨rfl, h3⟩
    have W := W.trans (h3.mono W.size)
    have nh3 := h3.size
    clear h3
    go_wp2_with fail
    refine (fc _).mono ?_
    rintro e w4 ⟨rfl, h4⟩
    have W := W.trans (h4.mono W.size)
    have nh4 := h4.size
    clear h4
    clear fa fb fc
    go_wp2_with (refine wp_want rfl fun K hK => ?_; refine wp_rw_alloc (P := Try.prog) (t := 63) (lv 0 0) zeroLab rfl ?_)
    intro w5 R5 b5 s5
    refine hK _ _ ?_
    clear hK K
    have W := W.trans (b5.mono W.size)
    have nb5 := b5.size
    have A := R5
    clear R5 b5
    go_wp2_with (refine wp_want rfl fun K hK => ?_; refine wp_rw_alloc (P := Try.prog) (t := 63) (lv 0 0) zeroLab rfl ?_)
    intro w6 R6 b6 s6
    refine hK _ _ ?_
    clear hK K
    have A := A.later b6
    have W := W.trans (b6.mono W.size)
    have nb6 := b6.size
    have B := R6
    clear R6 b6
    go_wp2_with (refine wp_want rfl fun K hK => ?_; refine wp_rw_alloc (P := Try.prog) (t := 63) (lv 0 0) zeroLab rfl ?_)
    intro w7 R7 b7 s7
    refine hK _ _ ?_
    clear hK K
    have A := A.later b7
    have B := B.later b7
    have W := W.trans (b7.mono W.size)
    have nb7 := b7.size
    have C := R7
    clear R7 b7
    go_wp2_with (refine wp_want rfl fun K hK => ?_; refine wp_lab_store A rfl rfl rfl ?_)
    intro w8 R8 g8 z8
    refine hK _ _ ?_
    clear hK K
    have B := B.grown g8 (by omega)
    have C := C.grown g8 (by omega)
    have W := below_row W g8 (by omega) (by omega)
    have A := R8
    clear R8 g8
    go_wp2_with (refine wp_want rfl fun K hK => ?_; refine wp_lab_store B rfl rfl rfl ?_)
    intro w9 R9 g9 z9
    refine hK _ _ ?_
    clear hK K
    have A := A.grown g9 (by omega)
    have C := C.grown g9 (by omega)
    have W := below_row W g9 (by omega) (by omega)
    have B := R9
    clear R9 g9
    go_wp2_with (refine wp_want rfl fun K hK => ?_; refine wp_lab_store C rfl rfl rfl ?_)
    intro w10 R10 g10 z10
    refine hK _ _ ?_
    clear hK K
    have A := A.grown g10 (by omega)
    have B := B.grown g10 (by omega)
    have W := below_row W g10 (by omega) (by omega)
    have C := R10
    clear R10 g10
    have cA0 := A.cell 0 (.int .i64 (a.1 : Int)) rfl
    have cA1 := A.cell 1 (.int .i64 (a.2 : Int)) rfl
    have cB0 := B.cell 0 (.int .i64 (b.1 : Int)) rfl
    have cB1 := B.cell 1 (.int .i64 (b.2 : Int)) rfl
    have cC0 := C.cell 0 (.int .i64 (c.1 : Int)) rfl
    have cC1 := C.cell 1 (.int .i64 (c.2 : Int)) rfl
    go_wp2_with fail
    clear cA0 cA1 cB0 cB1 cC0 cC1
    have cA0 := A.drew.at_ 0 (.int .i64 (a.1 : Int)) rfl
    have cA1 := A.drew.at_ 1 (.int .i64 (a.2 : Int)) rfl
    have cB0 := B.drew.at_ 0 (.int .i64 (b.1 : Int)) rfl
    have cB1 := B.drew.at_ 1 (.int .i64 (b.2 : Int)) rfl
    have cC0 := C.drew.at_ 0 (.int .i64 (c.1 : Int)) rfl
    have cC1 := C.drew.at_ 1 (.int .i64 (c.2 : Int)) rfl
    have W := W.drew
    have A := A.drew
    have B := B.drew
    have C := C.drew
    refine wp_region_rely 8 (by kernel_rfl) (by kernel_rfl) ?_
    simp only [List.take_succ_cons, List.take_zero]
    generalize World.drew w10 = w11d at *
    repeat (first
      | (refine wpR_step0 ?_ ?_ (fun K hK => ?_); rfl; rfl; go_simp; refine hK _ ?_; clear hK K)
      | (refine wpR_step0 ?_ ?_ (fun K hK => ?_); rfl; rfl; go_simp; apply Exists.intro; refine ⟨fun x => ?_, hK _ ?_⟩; (first | (go_at_call 44; first | (with_reducible exact u1 _) | (with_reducible exact u2 _) | (with_reducible exact u3 _) | (with_reducible exact u4 _) | (with_reducible exact u6 _)) | (go_at_call 38; first | (with_reducible exact u5 _))); clear hK K))
    refine wpR_nil fun x => ?_
    obtain ⟨w11, w11b⟩ := x
    simp only [close, List.drop_succ_cons, List.drop_zero]
    clear cA0 cA1 cB0 cB1 cC0 cC1
    have A := A.later w11b
    have B := B.later w11b
    have C := C.later w11b
    have W := W.trans (w11b.mono W.size)
    have nw11b := w11b.size
    clear w11b
    go_upto_region 5 with fail
    have cA0 := A.at_ 0 (.int .i64 (a.1 : Int)) rfl
    have cA1 := A.at_ 1 (.int .i64 (a.2 : Int)) rfl
    have cB0 := B.at_ 0 (.int .i64 (b.1 : Int)) rfl
    have cB1 := B.at_ 1 (.int .i64 (b.2 : Int)) rfl
    have cC0 := C.at_ 0 (.int .i64 (c.1 : Int)) rfl
    have cC1 := C.at_ 1 (.int .i64 (c.2 : Int)) rfl
    refine wp_region_text 41 (by kernel_rfl) ?_
    simp only [List.take_succ_cons, List.take_zero]
    repeat (first
      | (refine wpR_step0 ?_ ?_ (fun K hK => ?_); rfl; rfl; go_simp; refine hK _ ?_; clear hK K)
      | (refine wpR_step0 ?_ ?_ (fun K hK => ?_); rfl; rfl; go_simp; apply Exists.intro; refine ⟨fun x => ?_, hK _ ?_⟩; (first | (go_at_call 44; first | (with_reducible exact u1 _) | (with_reducible exact u2 _) | (with_reducible exact u3 _) | (with_reducible exact u4 _) | (with_reducible exact u6 _)) | (go_at_call 38; first | (with_reducible exact u5 _))); clear hK K))
    refine wpR_nil fun x => ?_
    obtain ⟨w12, w12b⟩ := x
    simp only [close, List.drop_succ_cons, List.drop_zero]
    clear cA0 cA1 cB0 cB1 cC0 cC1
    have A := A.later w12b
    have B := B.later w12b
    have C := C.later w12b
    have W := W.trans (w12b.mono W.size)
    have nw12b := w12b.size
    clear w12b
    go_wp2_with fail
    go_ret
    exact ⟨rfl, W⟩

theorem labLine_row (n0 n1 n2 : Int) (W : World) (wf0 : (Lit.int .u8 n0).wf = true) (wf1 : (Lit.int .u8 n1).wf = true) (wf2 : (Lit.int .u8 n2).wf = true) : Calls Try.prog 11 #[.int .u8 n0, .int .u8 n1, .int .u8 n2] W fun e w' => e = .returned (.bool true) ∧ Below W.heap.size W w' := by
  obtain ⟨b0, rfl⟩ := wf_u8 wf0
  obtain ⟨b1, rfl⟩ := wf_u8 wf1
  obtain ⟨b2, rfl⟩ := wf_u8 wf2
  exact labLine_law b0.toNat b1.toNat b2.toNat W b0.toNat_lt b1.toNat_lt b2.toNat_lt
end Go.Proofs.Ytibpipppabommaa.Cl
