/- Labels: the document's join, meet and order. -/
import Derived.Test.YtibpipppabommaaLab5
set_option linter.unusedVariables false
set_option linter.unusedSimpArgs false
namespace Go.Proofs.Ytibpipppabommaa.Cl
open Go Go.Proofs Go.RowKit Fl Rely

set_option maxRecDepth 100000 in
set_option maxHeartbeats 1000000 in
theorem refJoin_any (a b a' b' : Nat) (w : World) (ha : a ≤ 3) (hb : b ≤ 15) (ha' : a' ≤ 3) (hb' : b' ≤ 15) : Calls Try.prog 41 #[lv a b, lv a' b'] w fun e w' => e = .returned (lv (max (a : Int) (a' : Int)) ((b ||| b' : Nat) : Int)) ∧ Below w.heap.size w w' := by
  have m1 := refLabMay_any a b
  have m2 := refLabMay_any a' b'
  rw [labOK_mk (by omega) (by omega)] at m1
  rw [labOK_mk (by omega) (by omega)] at m2
  have eb := fun w => both_any b b' true w hb hb'
  rw [bothN_or b (by omega) b' (by omega)] at eb
  have ex : ∀ w, (Builtin.max_ #[3, 3] 3 #[.int .i64 (a : Int), .int .i64 (a' : Int)]).run Try.prog w = .ok (.int .i64 (max (a : Int) (a' : Int))) w := by
    intro w
    by_cases h : (a' : Int) > a
    · rw [show max (a : Int) (a' : Int) = a' from by omega]
      simp [Builtin.max_, Builtin.max2, h]
      try omega
    · rw [show max (a : Int) (a' : Int) = a from by omega]
      simp [Builtin.max_, Builtin.max2, h]
      try omega
  generalize max (a : Int) (a' : Int) = M at *
  generalize (b ||| b' : Nat) = z at *
  clear ha hb ha' hb'
  go_enter Try.func41, Try.ntmps41
  go_wp2_with (refine wp_want rfl fun K hK => ?_; refine wp_rw_box (P := Try.prog) (t := 63) #[.int .i64 (a : Int), .int .i64 (b : Int)] rfl rfl ?_)
  intro w1 A1 b1 s1
  refine hK _ _ ?_
  clear hK K
  go_wp2_with (refine wp_want rfl fun K hK => ?_; refine wp_rw_box (P := Try.prog) (t := 63) #[.int .i64 (a' : Int), .int .i64 (b' : Int)] rfl rfl ?_)
  intro w2 A2 b2 s2
  refine hK _ _ ?_
  clear hK K
  have B2 := b1.trans (b2.mono b1.size)
  go_wp2_with (refine wp_want rfl fun K hK => ?_; refine wp_rw_alloc (P := Try.prog) (t := 63) (lv 0 0) zeroLab rfl ?_)
  intro w3 A3 b3 s3
  refine hK _ _ ?_
  clear hK K
  have B3 := b2.trans (b3.mono b2.size)
  have A := A1.below (b2.trans (b3.mono b2.size)) s1
  have B := A2.below b3 s2
  have hW : Below w.heap.size w w3 := b1.trans (B3.mono b1.size)
  clear A1 A2 b1 b2 b3 B2 B3
  have x0 := A.at_ 0 (.int .i64 (a : Int)) rfl
  have x1 := A.at_ 1 (.int .i64 (b : Int)) rfl
  have y0 := B.at_ 0 (.int .i64 (a' : Int)) rfl
  have y1 := B.at_ 1 (.int .i64 (b' : Int)) rfl
  go_upto_region 1 with fail
  refine wp_region_text 8 (by kernel_rfl) ?_
  simp only [List.take_succ_cons, List.take_zero]
  repeat (first
    | (refine wpR_step0 ?_ ?_ (fun K hK => ?_); rfl; rfl; go_simp; refine hK _ ?_; clear hK K)
    | (refine wpR_step0 ?_ ?_ (fun K hK => ?_); rfl; rfl; go_simp; apply Exists.intro; refine ⟨fun x => ?_, hK _ ?_⟩; (first | (go_at_call 37; first | (with_reducible exact m1 _) | (with_reducible exact m2 _))); clear hK K))
  refine wpR_nil fun x => ?_
  obtain ⟨w4, w4b⟩ := x
  simp only [close, List.drop_succ_cons, List.drop_zero]
  have C := (A3.later w4b).drew
  have x0 := fun x : Lat w4.drew => cell_later x.2 (x0 ⟨w4, w4b⟩)
  have x1 := fun x : Lat w4.drew => cell_later x.2 (x1 ⟨w4, w4b⟩)
  have y0 := fun x : Lat w4.drew => cell_later x.2 (y0 ⟨w4, w4b⟩)
  have y1 := fun x : Lat w4.drew => cell_later x.2 (y1 ⟨w4, w4b⟩)
  have hW4 : Below w.heap.size w w4.drew := (hW.trans (w4b.mono hW.size)).drew
  clear A3 A B hW w4b
  go_wp2_with fail
  refine wp_region_rely 11 (by kernel_rfl) (by kernel_rfl) ?_
  simp only [List.take_succ_cons, List.take_zero]
  generalize World.drew w4 = w5 at *
  repeat (first
    | (refine wpR_step0 ?_ ?_ (fun K hK => ?_); rfl; rfl; go_simp; refine hK _ ?_; clear hK K)
    | (refine wpR_step0 ?_ ?_ (fun K hK => ?_); rfl; rfl; go_simp; apply Exists.intro; refine ⟨fun x => ?_, hK _ ?_⟩; (first | (go_at_call 59; (with_reducible exact forget (eb _)))); clear hK K))
  refine wpR_nil fun x => ?_
  obtain ⟨w6, w6b⟩ := x
  simp only [close, List.drop_succ_cons, List.drop_zero]
  have C := C.later w6b
  go_wp2_with (refine wp_want rfl fun K hK => ?_; refine wp_lab_store C rfl rfl rfl ?_)
  intro w7 C7 g7 z7
  refine hK _ _ ?_
  clear hK K
  go_wp2_with fail
  exact bodyPost_ret (results_lv rfl rfl C7) rfl ⟨rfl, below_row (hW4.trans (w6b.mono hW4.size)) g7 (Nat.le_trans hW4.size w6b.size) (Nat.le_trans (Nat.le_of_lt s1) (Nat.le_of_lt s2))⟩

set_option maxRecDepth 100000 in
set_option maxHeartbeats 1000000 in
theorem refMeet_any (a b a' b' : Nat) (w : World) (ha : a ≤ 3) (hb : b ≤ 15) (ha' : a' ≤ 3) (hb' : b' ≤ 15) : Calls Try.prog 43 #[lv a b, lv a' b'] w fun e w' => e = .returned (lv (min (a : Int) (a' : Int)) ((b &&& b' : Nat) : Int)) ∧ Below w.heap.size w w' := by
  have m1 := refLabMay_any a b
  have m2 := refLabMay_any a' b'
  rw [labOK_mk (by omega) (by omega)] at m1
  rw [labOK_mk (by omega) (by omega)] at m2
  have eb := fun w => both_any b b' false w hb hb'
  rw [bothN_and b (by omega) b' (by omega)] at eb
  have ex : ∀ w, (Builtin.min_ #[3, 3] 3 #[.int .i64 (a : Int), .int .i64 (a' : Int)]).run Try.prog w = .ok (.int .i64 (min (a : Int) (a' : Int))) w := by
    intro w
    by_cases h : (a' : Int) < a
    · rw [show min (a : Int) (a' : Int) = a' from by omega]
      simp [Builtin.min_, Builtin.min2, h]
      try omega
    · rw [show min (a : Int) (a' : Int) = a from by omega]
      simp [Builtin.min_, Builtin.min2, h]
      try omega
  generalize min (a : Int) (a' : Int) = M at *
  generalize (b &&& b' : Nat) = z at *
  clear ha hb ha' hb'
  go_enter Try.func43, Try.ntmps43
  go_wp2_with (refine wp_want rfl fun K hK => ?_; refine wp_rw_box (P := Try.prog) (t := 63) #[.int .i64 (a : Int), .int .i64 (b : Int)] rfl rfl ?_)
  intro w1 A1 b1 s1
  refine hK _ _ ?_
  clear hK K
  go_wp2_with (refine wp_want rfl fun K hK => ?_; refine wp_rw_box (P := Try.prog) (t := 63) #[.int .i64 (a' : Int), .int .i64 (b' : Int)] rfl rfl ?_)
  intro w2 A2 b2 s2
  refine hK _ _ ?_
  clear hK K
  have B2 := b1.trans (b2.mono b1.size)
  go_wp2_with (refine wp_want rfl fun K hK => ?_; refine wp_rw_alloc (P := Try.prog) (t := 63) (lv 0 0) zeroLab rfl ?_)
  intro w3 A3 b3 s3
  refine hK _ _ ?_
  clear hK K
  have B3 := b2.trans (b3.mono b2.size)
  have A := A1.below (b2.trans (b3.mono b2.size)) s1
  have B := A2.below b3 s2
  have hW : Below w.heap.size w w3 := b1.trans (B3.mono b1.size)
  clear A1 A2 b1 b2 b3 B2 B3
  have x0 := A.at_ 0 (.int .i64 (a : Int)) rfl
  have x1 := A.at_ 1 (.int .i64 (b : Int)) rfl
  have y0 := B.at_ 0 (.int .i64 (a' : Int)) rfl
  have y1 := B.at_ 1 (.int .i64 (b' : Int)) rfl
  go_upto_region 1 with fail
  refine wp_region_text 8 (by kernel_rfl) ?_
  simp only [List.take_succ_cons, List.take_zero]
  repeat (first
    | (refine wpR_step0 ?_ ?_ (fun K hK => ?_); rfl; rfl; go_simp; refine hK _ ?_; clear hK K)
    | (refine wpR_step0 ?_ ?_ (fun K hK => ?_); rfl; rfl; go_simp; apply Exists.intro; refine ⟨fun x => ?_, hK _ ?_⟩; (first | (go_at_call 37; first | (with_reducible exact m1 _) | (with_reducible exact m2 _))); clear hK K))
  refine wpR_nil fun x => ?_
  obtain ⟨w4, w4b⟩ := x
  simp only [close, List.drop_succ_cons, List.drop_zero]
  have C := (A3.later w4b).drew
  have x0 := fun x : Lat w4.drew => cell_later x.2 (x0 ⟨w4, w4b⟩)
  have x1 := fun x : Lat w4.drew => cell_later x.2 (x1 ⟨w4, w4b⟩)
  have y0 := fun x : Lat w4.drew => cell_later x.2 (y0 ⟨w4, w4b⟩)
  have y1 := fun x : Lat w4.drew => cell_later x.2 (y1 ⟨w4, w4b⟩)
  have hW4 : Below w.heap.size w w4.drew := (hW.trans (w4b.mono hW.size)).drew
  clear A3 A B hW w4b
  go_wp2_with fail
  refine wp_region_rely 11 (by kernel_rfl) (by kernel_rfl) ?_
  simp only [List.take_succ_cons, List.take_zero]
  generalize World.drew w4 = w5 at *
  repeat (first
    | (refine wpR_step0 ?_ ?_ (fun K hK => ?_); rfl; rfl; go_simp; refine hK _ ?_; clear hK K)
    | (refine wpR_step0 ?_ ?_ (fun K hK => ?_); rfl; rfl; go_simp; apply Exists.intro; refine ⟨fun x => ?_, hK _ ?_⟩; (first | (go_at_call 59; (with_reducible exact forget (eb _)))); clear hK K))
  refine wpR_nil fun x => ?_
  obtain ⟨w6, w6b⟩ := x
  simp only [close, List.drop_succ_cons, List.drop_zero]
  have C := C.later w6b
  go_wp2_with (refine wp_want rfl fun K hK => ?_; refine wp_lab_store C rfl rfl rfl ?_)
  intro w7 C7 g7 z7
  refine hK _ _ ?_
  clear hK K
  go_wp2_with fail
  exact bodyPost_ret (results_lv rfl rfl C7) rfl ⟨rfl, below_row (hW4.trans (w6b.mono hW4.size)) g7 (Nat.le_trans hW4.size w6b.size) (Nat.le_trans (Nat.le_of_lt s1) (Nat.le_of_lt s2))⟩

theorem cmpI_lt {x y : Int} (h : x < y) : cmpI x y = -1 := by unfold cmpI; rw [if_pos h]
theorem cmpI_gt {x y : Int} (h : y < x) : cmpI x y = 1 := by unfold cmpI; rw [if_neg (by omega), if_pos h]
theorem cmpI_eq {x y : Int} (h : x = y) : cmpI x y = 0 := by unfold cmpI; rw [if_neg (by omega), if_neg (by omega)]
theorem or3_neg (x y z : Int) : orI [x, y, z] = if x = 0 then if y = 0 then if z = 0 then 0 else z else y else x := rfl
/-- the order, written out -/
theorem or3_lex (l l' p p' c c' : Int) : orI [cmpI l l', cmpI p p', cmpI c c'] < 0 ↔ l < l' ∨ l = l' ∧ (p < p' ∨ p = p' ∧ c < c') := by
  rw [or3_neg]
  rcases Int.lt_trichotomy l l' with h | h | h <;> rcases Int.lt_trichotomy p p' with h2 | h2 | h2 <;> rcases Int.lt_trichotomy c c' with h3 | h3 | h3 <;>
    simp only [cmpI_lt, cmpI_gt, cmpI_eq, h, h2, h3] <;> simp <;> omega

set_option maxRecDepth 100000 in
set_option maxHeartbeats 2000000 in
theorem refLess_any (a b a' b' : Nat) (w : World) (ha : a ≤ 3) (hb : b ≤ 15) (ha' : a' ≤ 3) (hb' : b' ≤ 15) :
    Calls Try.prog 45 #[lv a b, lv a' b'] w fun e w' => e = .returned (.bool (decide (orI [cmpI a a', cmpI (pop b) (pop b'), cmpI b b'] < 0))) ∧ Below w.heap.size w w' := by
  rw [show decide (orI [cmpI a a', cmpI (pop b) (pop b'), cmpI b b'] < 0) = decide ((a : Int) < a' ∨ (a : Int) = a' ∧ ((pop b : Int) < pop b' ∨ (pop b : Int) = pop b' ∧ (b : Int) < b')) from by rw [decide_eq_decide]; exact or3_lex _ _ _ _ _ _]
  have m1 := refLabMay_any a b
  have m2 := refLabMay_any a' b'
  rw [labOK_mk (by omega) (by omega)] at m1
  rw [labOK_mk (by omega) (by omega)] at m2
  have n1 := fun w => refMany_any b w hb
  have n2 := fun w => refMany_any b' w hb'
  clear ha hb ha' hb'
  generalize ((pop b : Nat) : Int) = p at *
  generalize ((pop b' : Nat) : Int) = p' at *
  generalize (a : Int) = l at *
  generalize (b : Int) = c at *
  generalize (a' : Int) = l' at *
  generalize (b' : Int) = c' at *
  by_cases h1 : l = l'
  · have h1' : (l != l') = false := by simpa using h1
    by_cases h2 : p = p'
    · have h2' : (p != p') = false := by simpa using h2
      have H : Hid (decide (l < l' ∨ l = l' ∧ (p < p' ∨ p = p' ∧ c < c')) = decide (c < c')) := Lib.hid (by rw [decide_eq_decide]; omega)
      rw [H.out]
      clear h1 h2 H
      go_enter Try.func45, Try.ntmps45
      go_wp2_with (refine wp_want rfl fun K hK => ?_; refine wp_rw_box (P := Try.prog) (t := 63) #[.int .i64 l, .int .i64 c] rfl rfl ?_)
      intro w1 A1 b1 s1
      refine hK _ _ ?_
      clear hK K
      go_wp2_with (refine wp_want rfl fun K hK => ?_; refine wp_rw_box (P := Try.prog) (t := 63) #[.int .i64 l', .int .i64 c'] rfl rfl ?_)
      intro w2 A2 b2 s2
      refine hK _ _ ?_
      clear hK K
      have B2 := b1.trans (b2.mono b1.size)
      have A := A1.below b2 s1
      have x0 := A.at_ 0 (.int .i64 l) rfl
      have x1 := A.at_ 1 (.int .i64 c) rfl
      have y0 := A2.at_ 0 (.int .i64 l') rfl
      have y1 := A2.at_ 1 (.int .i64 c') rfl
      clear A1 A2 b1 b2 A
      go_upto_region 1 with fail
      refine wp_region_text 8 (by kernel_rfl) ?_
      simp only [List.take_succ_cons, List.take_zero]
      repeat (first
        | (refine wpR_step0 ?_ ?_ (fun K hK => ?_); rfl; rfl; go_simp; refine hK _ ?_; clear hK K)
        | (refine wpR_step0 ?_ ?_ (fun K hK => ?_); rfl; rfl; go_simp; apply Exists.intro; refine ⟨fun x => ?_, hK _ ?_⟩; (first | (go_at_call 37; first | (with_reducible exact m1 _) | (with_reducible exact m2 _))); clear hK K))
      refine wpR_nil fun x => ?_
      obtain ⟨w4, w4b⟩ := x
      simp only [close, List.drop_succ_cons, List.drop_zero]
      have x0 : w4.cell? ⟨w.heap.size, 0, none⟩ = some (.int .i64 l) := x0 ⟨w4, w4b⟩
      have y0 : w4.cell? ⟨w1.heap.size, 0, none⟩ = some (.int .i64 l') := y0 ⟨w4, w4b⟩
      have x1 := fun x : Lat w4.drew => cell_later x.2 (x1 ⟨w4, w4b⟩)
      have y1 := fun x : Lat w4.drew => cell_later x.2 (y1 ⟨w4, w4b⟩)
      have hW4 : Below w.heap.size w w4.drew := (B2.trans (w4b.mono B2.size)).drew
      clear B2
      go_wp2_with fail
      clear x0 y0
      refine wp_region_rely 7 (by kernel_rfl) (by kernel_rfl) ?_
      simp only [List.take_succ_cons, List.take_zero]
      generalize World.drew w4 = w5 at *
      repeat (first
        | (refine wpR_step0 ?_ ?_ (fun K hK => ?_); rfl; rfl; go_simp; refine hK _ ?_; clear hK K)
        | (refine wpR_step0 ?_ ?_ (fun K hK => ?_); rfl; rfl; go_simp; apply Exists.intro; refine ⟨fun x => ?_, hK _ ?_⟩; (first | (go_at_call 64; first | (with_reducible exact forget (n1 _)) | (with_reducible exact forget (n2 _)))); clear hK K))
      refine wpR_nil fun x => ?_
      obtain ⟨w6, w6b⟩ := x
      simp only [close, List.drop_succ_cons, List.drop_zero]
      have x1 : w6.cell? ⟨w.heap.size, 1, none⟩ = some (.int .i64 c) := x1 ⟨w6, w6b⟩
      have y1 : w6.cell? ⟨w1.heap.size, 1, none⟩ = some (.int .i64 c') := y1 ⟨w6, w6b⟩
      go_wp2_with fail
      go_ret
      exact ⟨rfl, hW4.trans (w6b.mono hW4.size)⟩
    · have h2' : (p != p') = true := by simpa using h2
      have H : Hid (decide (l < l' ∨ l = l' ∧ (p < p' ∨ p = p' ∧ c < c')) = decide (p < p')) := Lib.hid (by rw [decide_eq_decide]; omega)
      rw [H.out]
      clear h1 h2 H
      go_enter Try.func45, Try.ntmps45
      go_wp2_with (refine wp_want rfl fun K hK => ?_; refine wp_rw_box (P := Try.prog) (t := 63) #[.int .i64 l, .int .i64 c] rfl rfl ?_)
      intro w1 A1 b1 s1
      refine hK _ _ ?_
      clear hK K
      go_wp2_with (refine wp_want rfl fun K hK => ?_; refine wp_rw_box (P := Try.prog) (t := 63) #[.int .i64 l', .int .i64 c'] rfl rfl ?_)
      intro w2 A2 b2 s2
      refine hK _ _ ?_
      clear hK K
      have B2 := b1.trans (b2.mono b1.size)
      have A := A1.below b2 s1
      have x0 := A.at_ 0 (.int .i64 l) rfl
      have x1 := A.at_ 1 (.int .i64 c) rfl
      have y0 := A2.at_ 0 (.int .i64 l') rfl
      have y1 := A2.at_ 1 (.int .i64 c') rfl
      clear A1 A2 b1 b2 A
      go_upto_region 1 with fail
      refine wp_region_text 8 (by kernel_rfl) ?_
      simp only [List.take_succ_cons, List.take_zero]
      repeat (first
        | (refine wpR_step0 ?_ ?_ (fun K hK => ?_); rfl; rfl; go_simp; refine hK _ ?_; clear hK K)
        | (refine wpR_step0 ?_ ?_ (fun K hK => ?_); rfl; rfl; go_simp; apply Exists.intro; refine ⟨fun x => ?_, hK _ ?_⟩; (first | (go_at_call 37; first | (with_reducible exact m1 _) | (with_reducible exact m2 _))); clear hK K))
      refine wpR_nil fun x => ?_
      obtain ⟨w4, w4b⟩ := x
      simp only [close, List.drop_succ_cons, List.drop_zero]
      have x0 : w4.cell? ⟨w.heap.size, 0, none⟩ = some (.int .i64 l) := x0 ⟨w4, w4b⟩
      have y0 : w4.cell? ⟨w1.heap.size, 0, none⟩ = some (.int .i64 l') := y0 ⟨w4, w4b⟩
      have x1 := fun x : Lat w4.drew => cell_later x.2 (x1 ⟨w4, w4b⟩)
      have y1 := fun x : Lat w4.drew => cell_later x.2 (y1 ⟨w4, w4b⟩)
      have hW4 : Below w.heap.size w w4.drew := (B2.trans (w4b.mono B2.size)).drew
      clear B2
      go_wp2_with fail
      clear x0 y0
      refine wp_region_rely 7 (by kernel_rfl) (by kernel_rfl) ?_
      simp only [List.take_succ_cons, List.take_zero]
      generalize World.drew w4 = w5 at *
      repeat (first
        | (refine wpR_step0 ?_ ?_ (fun K hK => ?_); rfl; rfl; go_simp; refine hK _ ?_; clear hK K)
        | (refine wpR_step0 ?_ ?_ (fun K hK => ?_); rfl; rfl; go_simp; apply Exists.intro; refine ⟨fun x => ?_, hK _ ?_⟩; (first | (go_at_call 64; first | (with_reducible exact forget (n1 _)) | (with_reducible exact forget (n2 _)))); clear hK K))
      refine wpR_nil fun x => ?_
      obtain ⟨w6, w6b⟩ := x
      simp only [close, List.drop_succ_cons, List.drop_zero]
      have x1 := fun x : Lat w6.drew => cell_later x.2 (x1 ⟨w6, w6b⟩)
      have y1 := fun x : Lat w6.drew => cell_later x.2 (y1 ⟨w6, w6b⟩)
      have hW6 : Below w.heap.size w w6.drew := (hW4.trans (w6b.mono hW4.size)).drew
      go_wp2_with fail
      refine wp_region_rely 8 (by kernel_rfl) (by kernel_rfl) ?_
      simp only [List.take_succ_cons, List.take_zero]
      generalize World.drew w6 = w7 at *
      repeat (first
        | (refine wpR_step0 ?_ ?_ (fun K hK => ?_); rfl; rfl; go_simp; refine hK _ ?_; clear hK K)
        | (refine wpR_step0 ?_ ?_ (fun K hK => ?_); rfl; rfl; go_simp; apply Exists.intro; refine ⟨fun x => ?_, hK _ ?_⟩; (first | (go_at_call 64; first | (with_reducible exact forget (n1 _)) | (with_reducible exact forget (n2 _)))); clear hK K))
      refine wpR_nil fun x => ?_
      obtain ⟨w8, w8b⟩ := x
      simp only [close, List.drop_succ_cons, List.drop_zero]
      go_wp2_with fail
      go_ret
      exact ⟨rfl, hW6.trans (w8b.mono hW6.size)⟩
  · have h1' : (l != l') = true := by simpa using h1
    have H : Hid (decide (l < l' ∨ l = l' ∧ (p < p' ∨ p = p' ∧ c < c')) = decide (l < l')) := Lib.hid (by rw [decide_eq_decide]; omega)
    rw [H.out]
    clear h1 H
    go_enter Try.func45, Try.ntmps45
    go_wp2_with (refine wp_want rfl fun K hK => ?_; refine wp_rw_box (P := Try.prog) (t := 63) #[.int .i64 l, .int .i64 c] rfl rfl ?_)
    intro w1 A1 b1 s1
    refine hK _ _ ?_
    clear hK K
    go_wp2_with (refine wp_want rfl fun K hK => ?_; refine wp_rw_box (P := Try.prog) (t := 63) #[.int .i64 l', .int .i64 c'] rfl rfl ?_)
    intro w2 A2 b2 s2
    refine hK _ _ ?_
    clear hK K
    have B2 := b1.trans (b2.mono b1.size)
    have A := A1.below b2 s1
    have x0 := A.at_ 0 (.int .i64 l) rfl
    have x1 := A.at_ 1 (.int .i64 c) rfl
    have y0 := A2.at_ 0 (.int .i64 l') rfl
    have y1 := A2.at_ 1 (.int .i64 c') rfl
    clear A1 A2 b1 b2 A
    go_upto_region 1 with fail
    refine wp_region_text 8 (by kernel_rfl) ?_
    simp only [List.take_succ_cons, List.take_zero]
    repeat (first
      | (refine wpR_step0 ?_ ?_ (fun K hK => ?_); rfl; rfl; go_simp; refine hK _ ?_; clear hK K)
      | (refine wpR_step0 ?_ ?_ (fun K hK => ?_); rfl; rfl; go_simp; apply Exists.intro; refine ⟨fun x => ?_, hK _ ?_⟩; (first | (go_at_call 37; first | (with_reducible exact m1 _) | (with_reducible exact m2 _))); clear hK K))
    refine wpR_nil fun x => ?_
    obtain ⟨w4, w4b⟩ := x
    simp only [close, List.drop_succ_cons, List.drop_zero]
    have x0 : w4.cell? ⟨w.heap.size, 0, none⟩ = some (.int .i64 l) := x0 ⟨w4, w4b⟩
    have y0 : w4.cell? ⟨w1.heap.size, 0, none⟩ = some (.int .i64 l') := y0 ⟨w4, w4b⟩
    have hW4 : Below w.heap.size w w4 := B2.trans (w4b.mono B2.size)
    clear x1 y1
    go_wp2_with fail
    go_ret
    exact ⟨rfl, hW4⟩
end Go.Proofs.Ytibpipppabommaa.Cl
