/- The walks of ino and of the reference's IDs. -/
import Derived.Test.YtgeiafijibgdhaaSum
import Derived.Test.YtgeiafijibgdhaaRely
import Derived.Test.YtgeiafijibgdhaaNum
import Derived.Deep.RegionHeld3
import Derived.Handy
set_option linter.unusedVariables false
set_option linter.unusedSimpArgs false
namespace Go.Proofs.Ytgeiafijibgdhaa.Cl
open Go Go.Proofs Go.RowKit Fl Rely

/-- who one is, as a value -/
abbrev idv (a b c : Int) : Value := .agg #[.int .i64 a, .int .i64 b, .int .u32 c]

theorem root_any (w : World) : Calls Try.prog 76 #[] w fun e w' => e = .returned (idv (-1) 0 0) ∧ Below w.heap.size w w' := by
  go_enter Try.func76, Try.ntmps76
  go_wp2
  go_returns
  exact ⟨rfl, by go_grown⟩
theorem refRoot_any (w : World) : Calls Try.prog 31 #[] w fun e w' => e = .returned (idv (-1) 0 0) ∧ Below w.heap.size w w' := by
  go_enter Try.func31, Try.ntmps31
  go_wp2
  go_returns
  exact ⟨rfl, by go_grown⟩
theorem spot_any (a b c : Int) (w : World) : Calls Try.prog 75 #[idv a b c] w fun e w' => e = .returned (.complex .f64 (fl a) (fl b)) ∧ Below w.heap.size w w' := by
  go_enter Try.func75, Try.ntmps75
  go_wp2
  go_returns
  exact ⟨rfl, by go_grown⟩
theorem within_any (x f t : Int) (w : World) (hx : x.natAbs < 2 ^ 64) (hf : f.natAbs < 2 ^ 53) (ht : t.natAbs < 2 ^ 53) :
    Calls Try.prog 77 #[.float .f64 (fl x), .int .i64 f, .int .i64 t] w fun e w' => e = .returned (.bool (decide (f ≤ x ∧ x < t))) ∧ w = w' := by
  have e1 : FloatKind.f64.format.order (fl x) (floatOfInt .f64 f) = some (compare x f) := order_any x f hx hf
  have e2 : FloatKind.f64.format.order (fl x) (floatOfInt .f64 t) = some (compare x t) := order_any x t hx ht
  rcases Int.lt_trichotomy x f with h1 | h1 | h1 <;> rcases Int.lt_trichotomy x t with h2 | h2 | h2
  all_goals
    first | rw [compare_lt h1] at e1 | rw [compare_gt h1] at e1 | rw [compare_same h1] at e1
    first | rw [compare_lt h2] at e2 | rw [compare_gt h2] at e2 | rw [compare_same h2] at e2
    have H1 := Lib.hid h1
    have H2 := Lib.hid h2
    clear h1 h2
    go_enter Try.func77, Try.ntmps77
    go_wp2
    go_returns
    have h1 := H1.out
    have h2 := H2.out
    exact ⟨ret_bool (by simp; omega), rfl⟩

theorem eq_id (a b c a' b' c' : Int) (w : World) : (binOp .eql 41 (idv a b c) (idv a' b' c')).run Try.prog w = .ok (.bool (decide (a = a' ∧ b = b' ∧ c = c'))) w := by
  by_cases h1 : a = a' <;> by_cases h2 : b = b' <;> by_cases h3 : c = c' <;> simp [go_sem, h1, h2, h3]

/-- who may be -/
def mayID (a b c : Int) : Bool := decide ((a = -1 ∧ b = 0 ∧ c = 0) ∨ (0 ≤ a ∧ a < 8 ∧ 1 ≤ b ∧ b < 200 ∧ 1 ≤ c))

theorem may_any (a b c : Int) (w : World) (ha : -9223372036854775808 ≤ a ∧ a ≤ 9223372036854775807) (hbb : -9223372036854775808 ≤ b ∧ b ≤ 9223372036854775807) :
    Calls Try.prog 62 #[idv a b c] w fun e w' => e = .returned (.bool (mayID a b c)) ∧ Below w.heap.size w w' := by
  by_cases hroot : a = -1 ∧ b = 0 ∧ c = 0
  · have he := fun w => eq_id a b c (-1) 0 0 w
    rw [show decide (a = -1 ∧ b = 0 ∧ c = 0) = true by simpa using hroot] at he
    have hm : mayID a b c = true := by unfold mayID; simp only [decide_eq_true_eq]; exact .inl hroot
    rw [hm]
    clear hroot hm
    go_enter Try.func62, Try.ntmps62
    go_wp2_with fail
    refine (spot_any _ _ _ _).mono ?_
    rintro e w1 ⟨rfl, hb1⟩
    have hx := (Box3.new w (.int .i64 a) (.int .i64 b) (.int .u32 c) 41).below hb1
    have hb1 := (below_new_then hb1).drew
    go_wp2_with fail
    have hx0 : ∀ x : Lat w1.drew, x.1.cell? ⟨w.heap.size, 0, none⟩ = some (.int .i64 a) := fun x => cell_later x.2 hx.1
    have hx1 : ∀ x : Lat w1.drew, x.1.cell? ⟨w.heap.size, 1, none⟩ = some (.int .i64 b) := fun x => cell_later x.2 hx.2.1
    have hx2 : ∀ x : Lat w1.drew, x.1.cell? ⟨w.heap.size, 2, none⟩ = some (.int .u32 c) := fun x => cell_later x.2 hx.2.2
    refine wp_region_rely 18 (by kernel_rfl) (by kernel_rfl) ?_
    simp only [List.take_succ_cons, List.take_zero]
    generalize World.drew w1 = w2 at *
    repeat (first
      | (refine wpR_step0 ?_ ?_ (fun K hK => ?_); rfl; rfl; go_simp; refine hK _ ?_; clear hK K)
      | (refine wpR_step0 ?_ ?_ (fun K hK => ?_); rfl; rfl; go_simp; apply Exists.intro; refine ⟨fun x => ?_, hK _ ?_⟩; (first | (go_at_call 76; exact root_any _)); clear hK K))
    refine wpR_nil fun x => ?_
    obtain ⟨w3, w3b⟩ := x
    simp only [close, List.drop_succ_cons, List.drop_zero]
    go_wp2
    go_ret
    exact ⟨rfl, below_trans hb1 w3b hb1.size⟩
  · have he := fun w => eq_id a b c (-1) 0 0 w
    rw [show decide (a = -1 ∧ b = 0 ∧ c = 0) = false by simpa using hroot] at he
    have hm : mayID a b c = decide (0 ≤ a ∧ a < 8 ∧ 1 ≤ b ∧ b < 200 ∧ 1 ≤ c) := by unfold mayID; congr 1; exact propext ⟨fun h => h.resolve_left hroot, .inr⟩
    rw [hm]
    clear hroot hm
    by_cases h1 : 0 ≤ a ∧ a < 8 <;> by_cases h2 : 1 ≤ b ∧ b < 200
    all_goals
      have hw1 := fun w => within_any a 0 8 w (by omega) (by omega) (by omega)
      have hw2 := fun w => within_any b 1 200 w (by omega) (by omega) (by omega)
      first | rw [show decide (0 ≤ a ∧ a < 8) = true by simpa using h1] at hw1 | rw [show decide (0 ≤ a ∧ a < 8) = false by simpa using h1] at hw1
      first | rw [show decide (1 ≤ b ∧ b < 200) = true by simpa using h2] at hw2 | rw [show decide (1 ≤ b ∧ b < 200) = false by simpa using h2] at hw2
      have H1 := Lib.hid h1
      have H2 := Lib.hid h2
      clear h1 h2
      go_enter Try.func62, Try.ntmps62
      go_wp2_with fail
      refine (spot_any _ _ _ _).mono ?_
      rintro e w1 ⟨rfl, hb1⟩
      have hx := (Box3.new w (.int .i64 a) (.int .i64 b) (.int .u32 c) 41).below hb1
      have hb1 := (below_new_then hb1).drew
      go_wp2_with fail
      have hx0 : ∀ x : Lat w1.drew, x.1.cell? ⟨w.heap.size, 0, none⟩ = some (.int .i64 a) := fun x => cell_later x.2 hx.1
      have hx1 : ∀ x : Lat w1.drew, x.1.cell? ⟨w.heap.size, 1, none⟩ = some (.int .i64 b) := fun x => cell_later x.2 hx.2.1
      have hx2 : ∀ x : Lat w1.drew, x.1.cell? ⟨w.heap.size, 2, none⟩ = some (.int .u32 c) := fun x => cell_later x.2 hx.2.2
      refine wp_region_rely 18 (by kernel_rfl) (by kernel_rfl) ?_
      simp only [List.take_succ_cons, List.take_zero]
      generalize World.drew w1 = w2 at *
      repeat (first
        | (refine wpR_step0 ?_ ?_ (fun K hK => ?_); rfl; rfl; go_simp; refine hK _ ?_; clear hK K)
        | (refine wpR_step0 ?_ ?_ (fun K hK => ?_); rfl; rfl; go_simp; apply Exists.intro; refine ⟨fun x => ?_, hK _ ?_⟩; (first | (go_at_call 76; exact root_any _) | (go_at_call 77; first | (with_reducible exact forget (hw1 _)) | (with_reducible exact forget (hw2 _)))); clear hK K))
      refine wpR_nil fun x => ?_
      obtain ⟨w3, w3b⟩ := x
      simp only [close, List.drop_succ_cons, List.drop_zero]
      go_wp2
      go_ret
      have h1 := H1.out
      have h2 := H2.out
      exact ⟨ret_bool (by first | rfl | (simp; omega; done) | (rw [decide_eq_decide]; omega)), below_trans hb1 w3b hb1.size⟩

set_option maxHeartbeats 2000000 in
theorem refMay_any (a b c : Int) (w : World) :
    Calls Try.prog 63 #[idv a b c] w fun e w' => e = .returned (.bool (mayID a b c)) ∧ Below w.heap.size w w' := by
  have hcase : ((a = -1 ∧ b = 0 ∧ c = 0)) ∨ (¬(a = -1 ∧ b = 0 ∧ c = 0) ∧ (decide (0 ≤ a) = false ∨ (decide (0 ≤ a) = true ∧ decide (a < 8) = false) ∨ (decide (0 ≤ a) = true ∧ decide (a < 8) = true ∧ decide (1 ≤ b) = false) ∨
      (decide (0 ≤ a) = true ∧ decide (a < 8) = true ∧ decide (1 ≤ b) = true ∧ decide (b < 200) = false) ∨ (decide (0 ≤ a) = true ∧ decide (a < 8) = true ∧ decide (1 ≤ b) = true ∧ decide (b < 200) = true))) := by
    simp only [decide_eq_true_eq, decide_eq_false_iff_not]; omega
  have he := fun w => eq_id a b c (-1) 0 0 w
  rcases hcase with hroot | ⟨hroot, h | ⟨h1, h2⟩ | ⟨h1, h2, h3⟩ | ⟨h1, h2, h3, h4⟩ | ⟨h1, h2, h3, h4⟩⟩
  · rw [show decide (a = -1 ∧ b = 0 ∧ c = 0) = true by simpa using hroot] at he
    have hm : mayID a b c = true := by unfold mayID; simp only [decide_eq_true_eq]; exact .inl hroot
    rw [hm]
    clear hroot hm
    go_enter Try.func63, Try.ntmps63
    go_wp2_with fail
    have hx := (Box3.new w (.int .i64 a) (.int .i64 b) (.int .u32 c) 41)
    have hb1 := (below_new w (.cells #[.int .i64 a, .int .i64 b, .int .u32 c] 41)).drew
    generalize w.alloc _ = w1 at *
    have hx0 : ∀ x : Lat w1.drew, x.1.cell? ⟨w.heap.size, 0, none⟩ = some (.int .i64 a) := fun x => cell_later x.2 hx.1
    have hx1 : ∀ x : Lat w1.drew, x.1.cell? ⟨w.heap.size, 1, none⟩ = some (.int .i64 b) := fun x => cell_later x.2 hx.2.1
    have hx2 : ∀ x : Lat w1.drew, x.1.cell? ⟨w.heap.size, 2, none⟩ = some (.int .u32 c) := fun x => cell_later x.2 hx.2.2
    refine wp_region_rely 28 (by kernel_rfl) (by kernel_rfl) ?_
    simp only [List.take_succ_cons, List.take_zero]
    generalize World.drew w1 = w2 at *
    repeat (first
      | (refine wpR_step0 ?_ ?_ (fun K hK => ?_); rfl; rfl; go_simp; refine hK _ ?_; clear hK K)
      | (refine wpR_step0 ?_ ?_ (fun K hK => ?_); rfl; rfl; go_simp; apply Exists.intro; refine ⟨fun x => ?_, hK _ ?_⟩; (first | (go_at_call 31; exact refRoot_any _)); clear hK K))
    refine wpR_nil fun x => ?_
    obtain ⟨w3, w3b⟩ := x
    simp only [close, List.drop_succ_cons, List.drop_zero]
    go_wp2
    go_ret
    exact ⟨rfl, below_trans hb1 w3b hb1.size⟩
  all_goals
    rw [show decide (a = -1 ∧ b = 0 ∧ c = 0) = false by simpa using hroot] at he
    have hm : mayID a b c = decide (0 ≤ a ∧ a < 8 ∧ 1 ≤ b ∧ b < 200 ∧ 1 ≤ c) := by unfold mayID; congr 1; exact propext ⟨fun h => h.resolve_left hroot, .inr⟩
    rw [hm]
    clear hroot hm
    go_enter Try.func63, Try.ntmps63
    go_wp2_with fail
    have hx := (Box3.new w (.int .i64 a) (.int .i64 b) (.int .u32 c) 41)
    have hb1 := (below_new w (.cells #[.int .i64 a, .int .i64 b, .int .u32 c] 41)).drew
    generalize w.alloc _ = w1 at *
    have hx0 : ∀ x : Lat w1.drew, x.1.cell? ⟨w.heap.size, 0, none⟩ = some (.int .i64 a) := fun x => cell_later x.2 hx.1
    have hx1 : ∀ x : Lat w1.drew, x.1.cell? ⟨w.heap.size, 1, none⟩ = some (.int .i64 b) := fun x => cell_later x.2 hx.2.1
    have hx2 : ∀ x : Lat w1.drew, x.1.cell? ⟨w.heap.size, 2, none⟩ = some (.int .u32 c) := fun x => cell_later x.2 hx.2.2
    refine wp_region_rely 28 (by kernel_rfl) (by kernel_rfl) ?_
    simp only [List.take_succ_cons, List.take_zero]
    generalize World.drew w1 = w2 at *
    repeat (first
      | (refine wpR_step0 ?_ ?_ (fun K hK => ?_); rfl; rfl; go_simp; refine hK _ ?_; clear hK K)
      | (refine wpR_step0 ?_ ?_ (fun K hK => ?_); rfl; rfl; go_simp; apply Exists.intro; refine ⟨fun x => ?_, hK _ ?_⟩; (first | (go_at_call 31; exact refRoot_any _)); clear hK K))
    refine wpR_nil fun x => ?_
    obtain ⟨w3, w3b⟩ := x
    simp only [close, List.drop_succ_cons, List.drop_zero]
    go_wp2
    go_ret
    simp only [decide_eq_true_eq, decide_eq_false_iff_not] at *
    exact ⟨ret_bool (by first | rfl | (simp; omega; done) | (rw [decide_eq_decide]; omega)), below_trans hb1 w3b hb1.size⟩

/-- who may be, as bytes -/
def putID (a b c : Int) : List UInt8 := if mayID a b c then UInt8.ofNat (a % 256).toNat :: (be 2 b.toNat ++ be 4 c.toNat) else []

end Go.Proofs.Ytgeiafijibgdhaa.Cl
