/- Labels: the join and the meet (printed by mklab.py). -/
import Derived.Test.YtibpipppabommaaLab
set_option linter.unusedVariables false
set_option linter.unusedSimpArgs false
namespace Go.Proofs.Ytibpipppabommaa.Cl
open Go Go.Proofs Go.RowKit Fl Rely

-- GENERATED

set_option maxRecDepth 100000 in
set_option maxHeartbeats 400000 in
theorem join_no (l c l' c' : Int) (w : World) (hok : (labOK l c && labOK l' c') = false) : Calls Try.prog 40 #[lv l c, lv l' c'] w fun e w' => e = .returned (lv 0 0) ∧ Below w.heap.size w w' := by
  have m1 := labMay_any l c
  have m2 := labMay_any l' c'
  rcases ck_no _ _ _ _ hok with h | h
  · rw [h] at m1
    clear h hok
    go_enter Try.func40, Try.ntmps40
    go_wp2_with (refine wp_want rfl fun K hK => ?_; refine wp_rw_box (P := Try.prog) (t := 63) #[.int .i64 l, .int .i64 c] rfl rfl ?_)
    intro w1 A1 b1 s1
    refine hK _ _ ?_
    clear hK K
    go_wp2_with (refine wp_want rfl fun K hK => ?_; refine wp_rw_box (P := Try.prog) (t := 63) #[.int .i64 l', .int .i64 c'] rfl rfl ?_)
    intro w2 A2 b2 s2
    refine hK _ _ ?_
    clear hK K
    have B2 := b1.trans (b2.mono b1.size)
    go_wp2_with (refine wp_want rfl fun K hK => ?_; refine wp_rw_alloc (P := Try.prog) (t := 63) (lv 0 0) zeroLab rfl ?_)
    intro w3 A3 b3 s3
    refine hK _ _ ?_
    clear hK K
    have B3 := b2.trans (b3.mono b2.size)
    have A := A1.below (b2.trans (b3.mono b2.size)) s1
    have B := A2.below b3 s2
    have hW : Below w.heap.size w w3 := b1.trans (B3.mono b1.size)
    clear A1 A2 b1 b2 b3 B2 B3
    have x0 := A.at_ 0 (.int .i64 l) rfl
    have x1 := A.at_ 1 (.int .i64 c) rfl
    have y0 := B.at_ 0 (.int .i64 l') rfl
    have y1 := B.at_ 1 (.int .i64 c') rfl
    go_upto_region 1 with fail
    refine wp_region_text 8 (by kernel_rfl) ?_
    simp only [List.take_succ_cons, List.take_zero]
    repeat (first
      | (refine wpR_step0 ?_ ?_ (fun K hK => ?_); rfl; rfl; go_simp; refine hK _ ?_; clear hK K)
      | (refine wpR_step0 ?_ ?_ (fun K hK => ?_); rfl; rfl; go_simp; apply Exists.intro; refine ⟨fun x => ?_, hK _ ?_⟩; (first | (go_at_call 36; (with_reducible exact m1 _))); clear hK K))
    refine wpR_nil fun x => ?_
    obtain ⟨w4, w4b⟩ := x
    simp only [close, List.drop_succ_cons, List.drop_zero]
    have C := A3.later w4b
    go_wp2_with (refine wp_want rfl fun K hK => ?_; refine wp_lab_store C rfl rfl rfl ?_)
    intro w5 C5 g5 z5
    refine hK _ _ ?_
    clear hK K
    go_wp2_with fail
    exact bodyPost_ret (results_lv rfl rfl C5) rfl ⟨rfl, below_row (hW.trans (w4b.mono hW.size)) g5 (Nat.le_trans hW.size w4b.size) (Nat.le_trans (Nat.le_of_lt s1) (Nat.le_trans (Nat.le_of_lt s2) (Nat.le_refl _)))⟩
  · rw [h.1] at m1
    rw [h.2] at m2
    clear h hok
    go_enter Try.func40, Try.ntmps40
    go_wp2_with (refine wp_want rfl fun K hK => ?_; refine wp_rw_box (P := Try.prog) (t := 63) #[.int .i64 l, .int .i64 c] rfl rfl ?_)
    intro w1 A1 b1 s1
    refine hK _ _ ?_
    clear hK K
    go_wp2_with (refine wp_want rfl fun K hK => ?_; refine wp_rw_box (P := Try.prog) (t := 63) #[.int .i64 l', .int .i64 c'] rfl rfl ?_)
    intro w2 A2 b2 s2
    refine hK _ _ ?_
    clear hK K
    have B2 := b1.trans (b2.mono b1.size)
    go_wp2_with (refine wp_want rfl fun K hK => ?_; refine wp_rw_alloc (P := Try.prog) (t := 63) (lv 0 0) zeroLab rfl ?_)
    intro w3 A3 b3 s3
    refine hK _ _ ?_
    clear hK K
    have B3 := b2.trans (b3.mono b2.size)
    have A := A1.below (b2.trans (b3.mono b2.size)) s1
    have B := A2.below b3 s2
    have hW : Below w.heap.size w w3 := b1.trans (B3.mono b1.size)
    clear A1 A2 b1 b2 b3 B2 B3
    have x0 := A.at_ 0 (.int .i64 l) rfl
    have x1 := A.at_ 1 (.int .i64 c) rfl
    have y0 := B.at_ 0 (.int .i64 l') rfl
    have y1 := B.at_ 1 (.int .i64 c') rfl
    go_upto_region 1 with fail
    refine wp_region_text 8 (by kernel_rfl) ?_
    simp only [List.take_succ_cons, List.take_zero]
    repeat (first
      | (refine wpR_step0 ?_ ?_ (fun K hK => ?_); rfl; rfl; go_simp; refine hK _ ?_; clear hK K)
      | (refine wpR_step0 ?_ ?_ (fun K hK => ?_); rfl; rfl; go_simp; apply Exists.intro; refine ⟨fun x => ?_, hK _ ?_⟩; (first | (go_at_call 36; (with_reducible exact m1 _)) | (go_at_call 36; (with_reducible exact m2 _))); clear hK K))
    refine wpR_nil fun x => ?_
    obtain ⟨w4, w4b⟩ := x
    simp only [close, List.drop_succ_cons, List.drop_zero]
    have C := A3.later w4b
    go_wp2_with (refine wp_want rfl fun K hK => ?_; refine wp_lab_store C rfl rfl rfl ?_)
    intro w5 C5 g5 z5
    refine hK _ _ ?_
    clear hK K
    go_wp2_with fail
    exact bodyPost_ret (results_lv rfl rfl C5) rfl ⟨rfl, below_row (hW.trans (w4b.mono hW.size)) g5 (Nat.le_trans hW.size w4b.size) (Nat.le_trans (Nat.le_of_lt s1) (Nat.le_trans (Nat.le_of_lt s2) (Nat.le_refl _)))⟩

set_option maxRecDepth 100000 in
set_option maxHeartbeats 400000 in
theorem join_yes (a b a' b' : Nat) (w : World) (ha : a ≤ 3) (hb : b ≤ 15) (ha' : a' ≤ 3) (hb' : b' ≤ 15) : Calls Try.prog 40 #[lv a b, lv a' b'] w fun e w' => e = .returned (lv (max (a : Int) (a' : Int)) ((b ||| b' : Nat) : Int)) ∧ Below w.heap.size w w' := by
  obtain ⟨l, hl⟩ : ∃ l : Int, l = (a : Int) := ⟨_, rfl⟩
  obtain ⟨c, hc⟩ : ∃ l : Int, l = (b : Int) := ⟨_, rfl⟩
  obtain ⟨l', hl'⟩ : ∃ l : Int, l = (a' : Int) := ⟨_, rfl⟩
  obtain ⟨c', hc'⟩ : ∃ l : Int, l = (b' : Int) := ⟨_, rfl⟩
  have m1 := labMay_any l c
  have m2 := labMay_any l' c'
  rw [labOK_mk (by omega) (by omega)] at m1
  rw [labOK_mk (by omega) (by omega)] at m2
  have eo : bits .or .i64 c c' = ((b ||| b' : Nat) : Int) := by rw [hc, hc']; exact i64_or_nat b b' (by omega) (by omega)
  have ec := fun w => labOf_any (max l l') ((b ||| b' : Nat) : Int) w (by omega) (by have : b ||| b' ≤ 15 := or15 (by omega) (by omega); omega)
  rw [← hl, ← hl', ← hc, ← hc']
  have hlb : l.natAbs < 2 ^ 53 := by omega
  have hlb' : l'.natAbs < 2 ^ 53 := by omega
  have e1 := order_small l l' hlb hlb'
  clear hl hl' hc hc' hlb hlb'
  generalize (b ||| b' : Nat) = z at *
  rcases Int.lt_trichotomy l l' with h1 | h1 | h1
  all_goals
    first | rw [compare_lt h1] at e1 | rw [compare_gt h1] at e1 | rw [compare_same h1] at e1
    have em : max l l' = l ∨ max l l' = l' := by omega
    have ex : ∀ w, (Builtin.max_ #[85, 85] 85 #[.float .f64 (fl l), .float .f64 (fl l')]).run Try.prog w = .ok (.float .f64 (fl (max l l'))) w := by
      intro w
      first | rw [show max l l' = l from by omega] | rw [show max l l' = l' from by omega]
      simp [Builtin.max_, Builtin.max2, e1] <;> rw [h1] <;> simp
    clear e1
    first | (rw [show max l l' = l from by omega] at ec ex ⊢) | (rw [show max l l' = l' from by omega] at ec ex ⊢)
    have H1 := Lib.hid h1
    clear h1 em
    go_enter Try.func40, Try.ntmps40
    go_wp2_with (refine wp_want rfl fun K hK => ?_; refine wp_rw_box (P := Try.prog) (t := 63) #[.int .i64 l, .int .i64 c] rfl rfl ?_)
    intro w1 A1 b1 s1
    refine hK _ _ ?_
    clear hK K
    go_wp2_with (refine wp_want rfl fun K hK => ?_; refine wp_rw_box (P := Try.prog) (t := 63) #[.int .i64 l', .int .i64 c'] rfl rfl ?_)
    intro w2 A2 b2 s2
    refine hK _ _ ?_
    clear hK K
    have B2 := b1.trans (b2.mono b1.size)
    go_wp2_with (refine wp_want rfl fun K hK => ?_; refine wp_rw_alloc (P := Try.prog) (t := 63) (lv 0 0) zeroLab rfl ?_)
    intro w3 A3 b3 s3
    refine hK _ _ ?_
    clear hK K
    have B3 := b2.trans (b3.mono b2.size)
    have A := A1.below (b2.trans (b3.mono b2.size)) s1
    have B := A2.below b3 s2
    have hW : Below w.heap.size w w3 := b1.trans (B3.mono b1.size)
    clear A1 A2 b1 b2 b3 B2 B3
    have x0 := A.at_ 0 (.int .i64 l) rfl
    have x1 := A.at_ 1 (.int .i64 c) rfl
    have y0 := B.at_ 0 (.int .i64 l') rfl
    have y1 := B.at_ 1 (.int .i64 c') rfl
    go_upto_region 1 with fail
    refine wp_region_text 8 (by kernel_rfl) ?_
    simp only [List.take_succ_cons, List.take_zero]
    repeat (first
      | (refine wpR_step0 ?_ ?_ (fun K hK => ?_); rfl; rfl; go_simp; refine hK _ ?_; clear hK K)
      | (refine wpR_step0 ?_ ?_ (fun K hK => ?_); rfl; rfl; go_simp; apply Exists.intro; refine ⟨fun x => ?_, hK _ ?_⟩; (first | (go_at_call 36; first | (with_reducible exact m1 _) | (with_reducible exact m2 _))); clear hK K))
    refine wpR_nil fun x => ?_
    obtain ⟨w4, w4b⟩ := x
    simp only [close, List.drop_succ_cons, List.drop_zero]
    have C := (A3.later w4b).drew
    have x0 := fun x : Lat w4.drew => cell_later x.2 (x0 ⟨w4, w4b⟩)
    have x1 := fun x : Lat w4.drew => cell_later x.2 (x1 ⟨w4, w4b⟩)
    have y0 := fun x : Lat w4.drew => cell_later x.2 (y0 ⟨w4, w4b⟩)
    have y1 := fun x : Lat w4.drew => cell_later x.2 (y1 ⟨w4, w4b⟩)
    have hW4 : Below w.heap.size w w4.drew := (hW.trans (w4b.mono hW.size)).drew
    have h24 : w2.heap.size < w4.drew.heap.size := C.lt
    clear A3 A B hW w4b
    go_wp2_with fail
    refine wp_region_rely 15 (by kernel_rfl) (by kernel_rfl) ?_
    simp only [List.take_succ_cons, List.take_zero]
    generalize World.drew w4 = w5 at *
    repeat (first
      | (refine wpR_step0 ?_ ?_ (fun K hK => ?_); rfl; rfl; go_simp; refine hK _ ?_; clear hK K)
      | (refine wpR_step0 ?_ ?_ (fun K hK => ?_); rfl; rfl; go_simp; apply Exists.intro; refine ⟨fun x => ?_, hK _ ?_⟩; (first | (go_at_call 58; exact point_any _ _ _) | (go_at_call 57; exact ec _)); clear hK K))
    refine wpR_nil fun x => ?_
    obtain ⟨w6, w6b⟩ := x
    simp only [close, List.drop_succ_cons, List.drop_zero]
    have C := C.later w6b
    go_wp2_with (refine wp_want rfl fun K hK => ?_; refine wp_lab_store C rfl rfl rfl ?_)
    intro w7 C7 g7 z7
    refine hK _ _ ?_
    clear hK K
    go_wp2_with fail
    exact bodyPost_ret (results_lv rfl rfl C7) rfl ⟨rfl, below_row (hW4.trans (w6b.mono hW4.size)) g7 (Nat.le_trans hW4.size w6b.size) (Nat.le_trans (Nat.le_of_lt s1) (Nat.le_of_lt s2))⟩

set_option maxRecDepth 100000 in
set_option maxHeartbeats 400000 in
theorem meet_no (l c l' c' : Int) (w : World) (hok : (labOK l c && labOK l' c') = false) : Calls Try.prog 42 #[lv l c, lv l' c'] w fun e w' => e = .returned (lv 0 0) ∧ Below w.heap.size w w' := by
  have m1 := labMay_any l c
  have m2 := labMay_any l' c'
  rcases ck_no _ _ _ _ hok with h | h
  · rw [h] at m1
    clear h hok
    go_enter Try.func42, Try.ntmps42
    go_wp2_with (refine wp_want rfl fun K hK => ?_; refine wp_rw_box (P := Try.prog) (t := 63) #[.int .i64 l, .int .i64 c] rfl rfl ?_)
    intro w1 A1 b1 s1
    refine hK _ _ ?_
    clear hK K
    go_wp2_with (refine wp_want rfl fun K hK => ?_; refine wp_rw_box (P := Try.prog) (t := 63) #[.int .i64 l', .int .i64 c'] rfl rfl ?_)
    intro w2 A2 b2 s2
    refine hK _ _ ?_
    clear hK K
    have B2 := b1.trans (b2.mono b1.size)
    go_wp2_with (refine wp_want rfl fun K hK => ?_; refine wp_rw_alloc (P := Try.prog) (t := 63) (lv 0 0) zeroLab rfl ?_)
    intro w3 A3 b3 s3
    refine hK _ _ ?_
    clear hK K
    have B3 := b2.trans (b3.mono b2.size)
    have A := A1.below (b2.trans (b3.mono b2.size)) s1
    have B := A2.below b3 s2
    have hW : Below w.heap.size w w3 := b1.trans (B3.mono b1.size)
    clear A1 A2 b1 b2 b3 B2 B3
    have x0 := A.at_ 0 (.int .i64 l) rfl
    have x1 := A.at_ 1 (.int .i64 c) rfl
    have y0 := B.at_ 0 (.int .i64 l') rfl
    have y1 := B.at_ 1 (.int .i64 c') rfl
    go_upto_region 1 with fail
    refine wp_region_text 8 (by kernel_rfl) ?_
    simp only [List.take_succ_cons, List.take_zero]
    repeat (first
      | (refine wpR_step0 ?_ ?_ (fun K hK => ?_); rfl; rfl; go_simp; refine hK _ ?_; clear hK K)
      | (refine wpR_step0 ?_ ?_ (fun K hK => ?_); rfl; rfl; go_simp; apply Exists.intro; refine ⟨fun x => ?_, hK _ ?_⟩; (first | (go_at_call 36; (with_reducible exact m1 _))); clear hK K))
    refine wpR_nil fun x => ?_
    obtain ⟨w4, w4b⟩ := x
    simp only [close, List.drop_succ_cons, List.drop_zero]
    have C := A3.later w4b
    go_wp2_with (refine wp_want rfl fun K hK => ?_; refine wp_lab_store C rfl rfl rfl ?_)
    intro w5 C5 g5 z5
    refine hK _ _ ?_
    clear hK K
    go_wp2_with fail
    exact bodyPost_ret (results_lv rfl rfl C5) rfl ⟨rfl, below_row (hW.trans (w4b.mono hW.size)) g5 (Nat.le_trans hW.size w4b.size) (Nat.le_trans (Nat.le_of_lt s1) (Nat.le_trans (Nat.le_of_lt s2) (Nat.le_refl _)))⟩
  · rw [h.1] at m1
    rw [h.2] at m2
    clear h hok
    go_enter Try.func42, Try.ntmps42
    go_wp2_with (refine wp_want rfl fun K hK => ?_; refine wp_rw_box (P := Try.prog) (t := 63) #[.int .i64 l, .int .i64 c] rfl rfl ?_)
    intro w1 A1 b1 s1
    refine hK _ _ ?_
    clear hK K
    go_wp2_with (refine wp_want rfl fun K hK => ?_; refine wp_rw_box (P := Try.prog) (t := 63) #[.int .i64 l', .int .i64 c'] rfl rfl ?_)
    intro w2 A2 b2 s2
    refine hK _ _ ?_
    clear hK K
    have B2 := b1.trans (b2.mono b1.size)
    go_wp2_with (refine wp_want rfl fun K hK => ?_; refine wp_rw_alloc (P := Try.prog) (t := 63) (lv 0 0) zeroLab rfl ?_)
    intro w3 A3 b3 s3
    refine hK _ _ ?_
    clear hK K
    have B3 := b2.trans (b3.mono b2.size)
    have A := A1.below (b2.trans (b3.mono b2.size)) s1
    have B := A2.below b3 s2
    have hW : Below w.heap.size w w3 := b1.trans (B3.mono b1.size)
    clear A1 A2 b1 b2 b3 B2 B3
    have x0 := A.at_ 0 (.int .i64 l) rfl
    have x1 := A.at_ 1 (.int .i64 c) rfl
    have y0 := B.at_ 0 (.int .i64 l') rfl
    have y1 := B.at_ 1 (.int .i64 c') rfl
    go_upto_region 1 with fail
    refine wp_region_text 8 (by kernel_rfl) ?_
    simp only [List.take_succ_cons, List.take_zero]
    repeat (first
      | (refine wpR_step0 ?_ ?_ (fun K hK => ?_); rfl; rfl; go_simp; refine hK _ ?_; clear hK K)
      | (refine wpR_step0 ?_ ?_ (fun K hK => ?_); rfl; rfl; go_simp; apply Exists.intro; refine ⟨fun x => ?_, hK _ ?_⟩; (first | (go_at_call 36; (with_reducible exact m1 _)) | (go_at_call 36; (with_reducible exact m2 _))); clear hK K))
    refine wpR_nil fun x => ?_
    obtain ⟨w4, w4b⟩ := x
    simp only [close, List.drop_succ_cons, List.drop_zero]
    have C := A3.later w4b
    go_wp2_with (refine wp_want rfl fun K hK => ?_; refine wp_lab_store C rfl rfl rfl ?_)
    intro w5 C5 g5 z5
    refine hK _ _ ?_
    clear hK K
    go_wp2_with fail
    exact bodyPost_ret (results_lv rfl rfl C5) rfl ⟨rfl, below_row (hW.trans (w4b.mono hW.size)) g5 (Nat.le_trans hW.size w4b.size) (Nat.le_trans (Nat.le_of_lt s1) (Nat.le_trans (Nat.le_of_lt s2) (Nat.le_refl _)))⟩

set_option maxRecDepth 100000 in
set_option maxHeartbeats 400000 in
theorem meet_yes (a b a' b' : Nat) (w : World) (ha : a ≤ 3) (hb : b ≤ 15) (ha' : a' ≤ 3) (hb' : b' ≤ 15) : Calls Try.prog 42 #[lv a b, lv a' b'] w fun e w' => e = .returned (lv (min (a : Int) (a' : Int)) ((b &&& b' : Nat) : Int)) ∧ Below w.heap.size w w' := by
  obtain ⟨l, hl⟩ : ∃ l : Int, l = (a : Int) := ⟨_, rfl⟩
  obtain ⟨c, hc⟩ : ∃ l : Int, l = (b : Int) := ⟨_, rfl⟩
  obtain ⟨l', hl'⟩ : ∃ l : Int, l = (a' : Int) := ⟨_, rfl⟩
  obtain ⟨c', hc'⟩ : ∃ l : Int, l = (b' : Int) := ⟨_, rfl⟩
  have m1 := labMay_any l c
  have m2 := labMay_any l' c'
  rw [labOK_mk (by omega) (by omega)] at m1
  rw [labOK_mk (by omega) (by omega)] at m2
  have eo : bits .and .i64 c c' = ((b &&& b' : Nat) : Int) := by rw [hc, hc']; exact i64_and_nat b b' (by omega) (by omega)
  have ec := fun w => labOf_any (min l l') ((b &&& b' : Nat) : Int) w (by omega) (by have : b &&& b' ≤ 15 := and15 (by omega); omega)
  rw [← hl, ← hl', ← hc, ← hc']
  have hlb : l.natAbs < 2 ^ 53 := by omega
  have hlb' : l'.natAbs < 2 ^ 53 := by omega
  have e1 := order_small l l' hlb hlb'
  clear hl hl' hc hc' hlb hlb'
  generalize (b &&& b' : Nat) = z at *
  rcases Int.lt_trichotomy l l' with h1 | h1 | h1
  all_goals
    first | rw [compare_lt h1] at e1 | rw [compare_gt h1] at e1 | rw [compare_same h1] at e1
    have em : min l l' = l ∨ min l l' = l' := by omega
    have ex : ∀ w, (Builtin.min_ #[85, 85] 85 #[.float .f64 (fl l), .float .f64 (fl l')]).run Try.prog w = .ok (.float .f64 (fl (min l l'))) w := by
      intro w
      first | rw [show min l l' = l from by omega] | rw [show min l l' = l' from by omega]
      simp [Builtin.min_, Builtin.min2, e1] <;> rw [h1] <;> simp
    clear e1
    first | (rw [show min l l' = l from by omega] at ec ex ⊢) | (rw [show min l l' = l' from by omega] at ec ex ⊢)
    have H1 := Lib.hid h1
    clear h1 em
    go_enter Try.func42, Try.ntmps42
    go_wp2_with (refine wp_want rfl fun K hK => ?_; refine wp_rw_box (P := Try.prog) (t := 63) #[.int .i64 l, .int .i64 c] rfl rfl ?_)
    intro w1 A1 b1 s1
    refine hK _ _ ?_
    clear hK K
    go_wp2_with (refine wp_want rfl fun K hK => ?_; refine wp_rw_box (P := Try.prog) (t := 63) #[.int .i64 l', .int .i64 c'] rfl rfl ?_)
    intro w2 A2 b2 s2
    refine hK _ _ ?_
    clear hK K
    have B2 := b1.trans (b2.mono b1.size)
    go_wp2_with (refine wp_want rfl fun K hK => ?_; refine wp_rw_alloc (P := Try.prog) (t := 63) (lv 0 0) zeroLab rfl ?_)
    intro w3 A3 b3 s3
    refine hK _ _ ?_
    clear hK K
    have B3 := b2.trans (b3.mono b2.size)
    have A := A1.below (b2.trans (b3.mono b2.size)) s1
    have B := A2.below b3 s2
    have hW : Below w.heap.size w w3 := b1.trans (B3.mono b1.size)
    clear A1 A2 b1 b2 b3 B2 B3
    have x0 := A.at_ 0 (.int .i64 l) rfl
    have x1 := A.at_ 1 (.int .i64 c) rfl
    have y0 := B.at_ 0 (.int .i64 l') rfl
    have y1 := B.at_ 1 (.int .i64 c') rfl
    go_upto_region 1 with fail
    refine wp_region_text 8 (by kernel_rfl) ?_
    simp only [List.take_succ_cons, List.take_zero]
    repeat (first
      | (refine wpR_step0 ?_ ?_ (fun K hK => ?_); rfl; rfl; go_simp; refine hK _ ?_; clear hK K)
      | (refine wpR_step0 ?_ ?_ (fun K hK => ?_); rfl; rfl; go_simp; apply Exists.intro; refine ⟨fun x => ?_, hK _ ?_⟩; (first | (go_at_call 36; first | (with_reducible exact m1 _) | (with_reducible exact m2 _))); clear hK K))
    refine wpR_nil fun x => ?_
    obtain ⟨w4, w4b⟩ := x
    simp only [close, List.drop_succ_cons, List.drop_zero]
    have C := (A3.later w4b).drew
    have x0 := fun x : Lat w4.drew => cell_later x.2 (x0 ⟨w4, w4b⟩)
    have x1 := fun x : Lat w4.drew => cell_later x.2 (x1 ⟨w4, w4b⟩)
    have y0 := fun x : Lat w4.drew => cell_later x.2 (y0 ⟨w4, w4b⟩)
    have y1 := fun x : Lat w4.drew => cell_later x.2 (y1 ⟨w4, w4b⟩)
    have hW4 : Below w.heap.size w w4.drew := (hW.trans (w4b.mono hW.size)).drew
    have h24 : w2.heap.size < w4.drew.heap.size := C.lt
    clear A3 A B hW w4b
    go_wp2_with fail
    refine wp_region_rely 15 (by kernel_rfl) (by kernel_rfl) ?_
    simp only [List.take_succ_cons, List.take_zero]
    generalize World.drew w4 = w5 at *
    repeat (first
      | (refine wpR_step0 ?_ ?_ (fun K hK => ?_); rfl; rfl; go_simp; refine hK _ ?_; clear hK K)
      | (refine wpR_step0 ?_ ?_ (fun K hK => ?_); rfl; rfl; go_simp; apply Exists.intro; refine ⟨fun x => ?_, hK _ ?_⟩; (first | (go_at_call 58; exact point_any _ _ _) | (go_at_call 57; exact ec _)); clear hK K))
    refine wpR_nil fun x => ?_
    obtain ⟨w6, w6b⟩ := x
    simp only [close, List.drop_succ_cons, List.drop_zero]
    have C := C.later w6b
    go_wp2_with (refine wp_want rfl fun K hK => ?_; refine wp_lab_store C rfl rfl rfl ?_)
    intro w7 C7 g7 z7
    refine hK _ _ ?_
    clear hK K
    go_wp2_with fail
    exact bodyPost_ret (results_lv rfl rfl C7) rfl ⟨rfl, below_row (hW4.trans (w6b.mono hW4.size)) g7 (Nat.le_trans hW4.size w6b.size) (Nat.le_trans (Nat.le_of_lt s1) (Nat.le_of_lt s2))⟩
-- END GENERATED
end Go.Proofs.Ytibpipppabommaa.Cl
