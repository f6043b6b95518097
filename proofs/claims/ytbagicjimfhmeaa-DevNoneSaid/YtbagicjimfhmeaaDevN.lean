/- The law DevNone. -/
import Derived.Test.YtbagicjimfhmeaaDevG
set_option linter.unusedVariables false
set_option linter.unusedSimpArgs false
namespace Go.Proofs.Ytbagicjimfhmeaa.Cl
open Go Go.Proofs Go.RowKit Fl

theorem copy_nil (w : World) : Calls Try.prog 20 #[.pointer none] w fun e w' => e = .returned (.pointer none) ∧ w = w' := by
  go_enter Try.func20, Try.ntmps20
  go_wp2_with fail
  go_ret
  exact ⟨rfl, rfl⟩
theorem infoIntZ : (Try.prog.info? 3).map (fun i => (i.zero, i.size, i.bytes)) = some (some (.int .i64 0), 1, 8) := by kernel_rfl
set_option maxRecDepth 100000 in
set_option maxHeartbeats 8000000 in
theorem devNone_law (r i : Int) (w : World) : Calls Try.prog 9 #[.int .i64 r, .int .i64 i] w fun e w' => e = .returned (.bool true) ∧ Below w.heap.size w w' := by
  obtain ⟨i8, hi8, hz8, hs8, hb8⟩ := info_parts infoIntZ
  have hmk := run_make_n (P := Try.prog) 28 3 i8 (.int .i64 0) Try.underlying28 hi8 hz8 hs8 rfl 9 9 rfl (by rw [hb8]; decide) (by decide)
  obtain ⟨z, hz⟩ : ∃ z, z = (List.replicate 9 (Value.int .i64 0)).toArray := ⟨_, rfl⟩
  rw [← hz] at hmk
  have hO : ∀ w : World, Rd (w.alloc (.cells z 3)) (.slice (some ⟨w.heap.size, 0, none⟩) 9 9) (ints (List.replicate 9 0)) := fun w => by rw [hz]; exact Rd.new w _ _ (0, 0) 9 rfl (by simp)
  clear hz hi8 hz8 hs8 hb8
  go_enter Try.func9, Try.ntmps9
  go_wp2_with fail
  refine (devBegun_any w).mono ?_
  rintro e w1 ⟨rfl, b1⟩
  go_wp2_with fail
  refine (read_nil r i w1).mono ?_
  rintro e wq ⟨rfl, rfl⟩
  go_wp2_with fail
  refine (stop_nil i w1).mono ?_
  rintro e wq ⟨rfl, rfl⟩
  go_wp2_with fail
  refine (crash_nil _ w1).mono ?_
  rintro e wq ⟨rfl, rfl⟩
  go_wp2_with fail
  refine (dNewNo _ [] w1 (Rd.nil _) (by unfold okS; decide)).mono ?_
  rintro e w2 ⟨rfl, bx⟩
  have b2 := b1.trans (bx.mono b1.size)
  clear bx
  go_wp2_with fail
  refine (dNewNo _ [0] _ (Rd.new w2 #[.int .i64 0] _ (0, 0) 1 rfl (by simp)) (by unfold okS; decide)).mono ?_
  rintro e w3 ⟨rfl, bx⟩
  have bx := below_new_then bx
  have b3 := b2.trans (bx.mono b2.size)
  clear bx
  go_wp2_with fail
  refine (dNewNo _ (List.replicate 9 0) _ (hO w3) (by unfold okS; decide)).mono ?_
  rintro e w4 ⟨rfl, bx⟩
  have bx := below_new_then bx
  have b4 := b3.trans (bx.mono b3.size)
  clear bx
  go_wp2_with fail
  refine (dNewNo _ [1001] _ (Rd.new w4 #[.int .i64 1001] _ (0, 0) 1 rfl (by simp)) (by unfold okS; decide)).mono ?_
  rintro e w5 ⟨rfl, bx⟩
  have bx := below_new_then bx
  have b5 := b4.trans (bx.mono b4.size)
  clear bx
  go_wp2_with fail
  refine (full_any _ [] w5 (Rd.nil _)).mono ?_
  rintro e w6 ⟨rfl, _, bx⟩
  have b6 := b5.trans (bx.mono b5.size)
  clear bx
  go_wp2_with fail
  refine (write_nil r i _ _ _ w6).mono ?_
  rintro e wq ⟨rfl, rfl⟩
  go_wp2_with fail
  refine (barrier_nil r w6).mono ?_
  rintro e wq ⟨rfl, rfl⟩
  go_wp2_with fail
  refine (stopped_nil w6).mono ?_
  rintro e wq ⟨rfl, rfl⟩
  go_wp2_with fail
  refine (trace_nil r w6).mono ?_
  rintro e wq ⟨rfl, rfl⟩
  go_wp2_with fail
  refine (regions_nil w6).mono ?_
  rintro e wq ⟨rfl, rfl⟩
  go_wp2_with fail
  refine (copy_nil w6).mono ?_
  rintro e wq ⟨rfl, rfl⟩
  go_wp2_with fail
  go_ret
  exact ⟨rfl, b6⟩
end Go.Proofs.Ytbagicjimfhmeaa.Cl
