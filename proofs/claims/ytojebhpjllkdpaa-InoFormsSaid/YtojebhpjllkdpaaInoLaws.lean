/- The laws of layer 11. -/
import Derived.Test.YtojebhpjllkdpaaIno5
set_option linter.unusedVariables false
set_option linter.unusedSimpArgs false
namespace Go.Proofs.Ytojebhpjllkdpaa.Cl
open Go Go.Proofs Go.RowKit Fl Rely

theorem str_eq_self (l : List UInt8) : (l == l) = true := by simp

set_option maxRecDepth 100000 in
set_option maxHeartbeats 4000000 in
theorem inoAll_law (a b c : Int) (v : Value) (l : List UInt8) (w : World) (ha : -9223372036854775808 ≤ a ∧ a ≤ 9223372036854775807) (hbb : -9223372036854775808 ≤ b ∧ b ≤ 9223372036854775807) (hc : c < 4294967296) (hv : Rd w v (bs l)) :
    Calls Try.prog 7 #[idv a b c, v] w fun e w' => e = .returned (.bool true) ∧ Below w.heap.size w w' := by
  obtain ⟨ad, cap, rfl, hc1, hc2, _, _⟩ := id hv
  rw [List.length_map] at *
  by_cases hl : l.length ≤ 10
  · obtain ⟨A, B, C, k, htk⟩ : ∃ A B C k, takeID l = (A, B, C, k) := ⟨_, _, _, _, rfl⟩
    have htv := takeV_of htk
    go_enter Try.func7, Try.ntmps7
    go_wp2_with fail
    refine (inoBegun_any _).mono ?_
    rintro e w1 ⟨rfl, hb1⟩
    have hx1 := (Box3.new w (.int .i64 a) (.int .i64 b) (.int .u32 c) 33).below hb1
    have hb1 := below_new_then hb1
    go_wp2_with fail
    refine (take_any _ l _ (hv.below hb1)).mono ?_
    rw [htv]
    rintro e w2 ⟨rfl, hb2⟩
    have hx1 := hx1.below hb2
    have hb2 := hb1.trans (hb2.mono hb1.size)
    go_wp2_with fail
    refine at_world fun w3 hw3 => ?_
    have hx2 : Box3 w3 w2.heap.size (.int .i64 A) (.int .i64 B) (.int .u32 C) := by rw [hw3]; exact Box3.new _ _ _ _ _
    have hx1 := hx1.below (by rw [hw3]; exact below_new _ _ : Below w2.heap.size w2 w3)
    have hb3 : Below w.heap.size w w3 := by rw [hw3]; exact hb2.trans (below_mono (below_new _ _) hb2.size)
    clear hw3 hb1 hb2
    refine (refTake_any _ l _ (hv.below hb3)).mono ?_
    rw [htv]
    rintro e w4 ⟨rfl, hb4⟩
    have hx1 := hx1.below hb4
    have hx2 := hx2.below hb4
    have hb4 := hb3.trans (hb4.mono hb3.size)
    clear hb3
    go_wp2_with fail
    refine at_wp fun w5 hw5 => ?_
    have hx1 := (hx1.below (by rw [hw5]; exact below_new _ _ : Below w4.heap.size w4 w5)).drew
    have hx2 := (hx2.below (by rw [hw5]; exact below_new _ _ : Below w4.heap.size w4 w5)).drew
    have hx3 : Box3 w5.drew w4.heap.size (.int .i64 A) (.int .i64 B) (.int .u32 C) := by rw [hw5]; exact (Box3.new _ _ _ _ _).drew
    have hb5 : Below w.heap.size w w5.drew := by rw [hw5]; exact (hb4.trans (below_mono (below_new _ _) hb4.size)).drew
    clear hw5 hb4
    have y10 := fun x : Lat w5.drew => (hx1.below x.2).1
    have y11 := fun x : Lat w5.drew => (hx1.below x.2).2.1
    have y12 := fun x : Lat w5.drew => (hx1.below x.2).2.2
    have y20 := fun x : Lat w5.drew => (hx2.below x.2).1
    have y21 := fun x : Lat w5.drew => (hx2.below x.2).2.1
    have y22 := fun x : Lat w5.drew => (hx2.below x.2).2.2
    have y30 := fun x : Lat w5.drew => (hx3.below x.2).1
    have y31 := fun x : Lat w5.drew => (hx3.below x.2).2.1
    have y32 := fun x : Lat w5.drew => (hx3.below x.2).2.2
    have heq : ∀ w, (binOp .eql 33 (idv A B C) (idv A B C)).run Try.prog w = .ok (.bool true) w := fun w => by rw [eq_id]; simp
    generalize hm : mayID a b c = m
    have hM1 := Lib.hid (fun w => hm ▸ may_any a b c w ha hbb)
    have hM2 := Lib.hid (fun w => hm ▸ refMay_any a b c w)
    have hbm : (m == m) = true := by simp
    have hbk : (k == k) = true := by simp
    clear hm htk htv
    refine wp_region_rely 24 (by kernel_rfl) (by kernel_rfl) ?_
    simp only [List.take_succ_cons, List.take_zero]
    generalize World.drew w5 = w6 at *
    repeat (first
      | (refine wpR_step0 ?_ ?_ (fun K hK => ?_); rfl; rfl; go_simp; refine hK _ ?_; clear hK K)
      | (refine wpR_step0 ?_ ?_ (fun K hK => ?_); rfl; rfl; go_simp; apply Exists.intro; refine ⟨fun x => ?_, hK _ ?_⟩; (first | (go_at_call 23; with_reducible exact hM1.out _) | (go_at_call 24; with_reducible exact hM2.out _)); clear hK K))
    refine wpR_fresh (fun v W => OB W w.heap.size v (putID a b c)) 31 rfl rfl rfl rfl (of_decide_eq_true rfl) (persist_OB _ _) (fun x => ?_) ?_
    · go_simp
      exact (put_any a b c x.1 ha hbb hc).mono fun _ _ ⟨u, h1, h2, _, _, h3⟩ => ⟨u, h1, h3, h2.mono (Nat.le_trans hb5.size x.2.size)⟩
    refine wpR_settled (.string ⟨(putID a b c).toArray⟩) [(31, fun v W => OB W w.heap.size v (putID a b c))] rfl rfl rfl (fun x => ?_) ?_
    · simp only [close]
      intro u hu
      have hcu := run_string_of (P := Try.prog) hu.rd 22 5 9 Try.underlying22 Try.underlying5 Try.underlying9
      go_simp
    repeat (first
      | (refine wpR_step0 ?_ ?_ (fun K hK => ?_); rfl; rfl; go_simp; refine hK _ ?_; clear hK K))
    refine wpR_fresh (fun v W => OB W w.heap.size v (putID a b c)) 34 rfl rfl rfl rfl (of_decide_eq_true rfl) (persist_OB _ _) (fun x => ?_) ?_
    · go_simp
      exact (refPut_any a b c x.1 hc).mono fun _ _ ⟨u, h1, h2, h3⟩ => ⟨u, h1, h3, h2.mono (Nat.le_trans hb5.size x.2.size)⟩
    refine wpR_settled (.string ⟨(putID a b c).toArray⟩) [(34, fun v W => OB W w.heap.size v (putID a b c))] rfl rfl rfl (fun x => ?_) ?_
    · simp only [close]
      intro u hu
      have hcu := run_string_of (P := Try.prog) hu.rd 22 5 9 Try.underlying22 Try.underlying5 Try.underlying9
      go_simp
    repeat (first
      | (refine wpR_step0 ?_ ?_ (fun K hK => ?_); rfl; rfl; go_simp; refine hK _ ?_; clear hK K))
    refine wpR_nil fun x => ?_
    obtain ⟨w7, w7b⟩ := x
    simp only [close, List.drop_succ_cons, List.drop_zero]
    intro u34 _ u31 _
    simp only [Act.put, List.setIfInBounds_toArray, List.set_cons_zero, List.set_cons_succ]
    go_wp2
    go_ret
    exact ⟨rfl, hb5.trans (w7b.mono hb5.size)⟩
  · have hl' : 10 < l.length := by omega
    go_enter Try.func7, Try.ntmps7
    go_wp2_with fail
    refine (inoBegun_any _).mono ?_
    rintro e w1 ⟨rfl, hb1⟩
    have hb1 := below_new_then hb1
    go_wp2_with fail
    go_ret
    exact ⟨rfl, hb1⟩
end Go.Proofs.Ytojebhpjllkdpaa.Cl
