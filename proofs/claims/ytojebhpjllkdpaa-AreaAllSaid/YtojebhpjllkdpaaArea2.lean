/- begun of layer 5, AreaForms. -/
import Derived.Test.YtojebhpjllkdpaaArea
set_option linter.unusedVariables false
set_option linter.unusedSimpArgs false
namespace Go.Proofs.Ytojebhpjllkdpaa.Cl
open Go Go.Proofs Go.RowKit Fl Rely

/-- no labels at all -/
theorem mayNil_any (w : World) : Calls Try.prog 50 #[.slice none 0 0] w fun e w' => e = .returned (.bool false) ∧ w = w' := by
  go_enter Try.func50, Try.ntmps50
  go_wp2
  go_loop [7] (fun i => i = .int .i64 0) (fun _ => 0)
  case atStart => rfl
  case round =>
    subst hrel
    go_wp2
    go_ret
    exact ⟨rfl, rfl⟩
theorem sizesNil_any (w : World) : Calls Try.prog 31 #[.slice none 0 0] w fun e w' => e = .returned (.slice none 0 0) ∧ w = w' := by
  go_enter Try.func31, Try.ntmps31
  go_wp2_with fail
  refine (mayNil_any _).mono ?_
  rintro e w1 ⟨rfl, rfl⟩
  go_wp2_with fail
  go_ret
  exact ⟨rfl, rfl⟩

/-- a box of a share -/
def Box5 (w : World) (g : Nat) (v c b l f : Int) : Prop := w.cell? ⟨g, 0, none⟩ = some (.int .i64 v) ∧ w.cell? ⟨g, 1, none⟩ = some (.int .i64 c) ∧ w.cell? ⟨g, 2, none⟩ = some (.int .i64 b) ∧ w.cell? ⟨g, 3, none⟩ = some (.int .i64 l) ∧ w.cell? ⟨g, 4, none⟩ = some (.int .i64 f)
theorem Box5.new (w : World) (v c b l f : Int) (e : TypeId) : Box5 (w.alloc (.cells #[.int .i64 v, .int .i64 c, .int .i64 b, .int .i64 l, .int .i64 f] e)) w.heap.size v c b l f := by
  refine ⟨?_, ?_, ?_, ?_, ?_⟩ <;> simp
theorem Box5.below {w w1 : World} {g : Nat} {v c b l f : Int} (h : Box5 w g v c b l f) (hb : Below w.heap.size w w1) : Box5 w1 g v c b l f :=
  ⟨cell_later hb h.1, cell_later hb h.2.1, cell_later hb h.2.2.1, cell_later hb h.2.2.2.1, cell_later hb h.2.2.2.2⟩

-- GENERATED

set_option maxRecDepth 100000 in
set_option maxHeartbeats 4000000 in
theorem areaBegun_any (w : World) : Calls Try.prog 28 #[] w fun e w' => e = .returned (.bool true) ∧ Below w.heap.size w w' := by
  go_enter Try.func28, Try.ntmps28
  go_wp2_with fail
  refine at_world fun w1 hw1 => ?_
  have hx := Box5.new w (0) (0) (4) (16) (0) 54
  have hb : Below w.heap.size w w1 := by rw [hw1]; exact below_trans (Below.refl _ _) (below_new _ _) (Nat.le_refl _)
  rw [← hw1] at hx
  clear hw1
  refine (size_any (0) (0) (4) (16) (0) _ (by decide) (by decide)).mono ?_
  rintro e w2 ⟨rfl, hbn⟩
  have hx := hx.below hbn
  have hb := hb.trans (hbn.mono hb.size)
  clear hbn
  obtain ⟨c0, c1, c2, c3, c4⟩ := id hx
  go_wp2_with fail
  clear c0 c1 c2 c3 c4
  refine (anchor_any 3 _ (by decide)).mono ?_
  rintro e wn ⟨rfl, rfl⟩
  obtain ⟨c0, c1, c2, c3, c4⟩ := id hx
  go_wp2_with fail
  clear c0 c1 c2 c3 c4
  refine (log_any (0) (0) (4) (16) (0) (0) _ (by decide)).mono ?_
  rw [show rowAt 2 (16) (0) = 2 from by decide]
  rintro e w3 ⟨rfl, hbn⟩
  have hx := hx.below hbn
  have hb := hb.trans (hbn.mono hb.size)
  clear hbn
  obtain ⟨c0, c1, c2, c3, c4⟩ := id hx
  go_wp2_with fail
  clear c0 c1 c2 c3 c4
  refine (home_any (0) (0) (4) (16) (0) (0) _ (by decide) (by decide)).mono ?_
  rw [show rowAt (2 + (16)) (4) (0) = 18 from by decide]
  rintro e w4 ⟨rfl, hbn⟩
  have hx := hx.below hbn
  have hb := hb.trans (hbn.mono hb.size)
  clear hbn
  obtain ⟨c0, c1, c2, c3, c4⟩ := id hx
  go_wp2_with fail
  clear c0 c1 c2 c3 c4
  refine (log_any (0) (0) (4) (16) (0) (16) _ (by decide)).mono ?_
  rw [show rowAt 2 (16) (16) = -1 from by decide]
  rintro e w5 ⟨rfl, hbn⟩
  have hx := hx.below hbn
  have hb := hb.trans (hbn.mono hb.size)
  clear hbn
  obtain ⟨c0, c1, c2, c3, c4⟩ := id hx
  go_wp2_with fail
  clear c0 c1 c2 c3 c4
  refine (home_any (0) (0) (4) (16) (0) (4) _ (by decide) (by decide)).mono ?_
  rw [show rowAt (2 + (16)) (4) (4) = -1 from by decide]
  rintro e w6 ⟨rfl, hbn⟩
  have hx := hx.below hbn
  have hb := hb.trans (hbn.mono hb.size)
  clear hbn
  obtain ⟨c0, c1, c2, c3, c4⟩ := id hx
  go_wp2_with fail
  clear c0 c1 c2 c3 c4
  refine (sizesNil_any _).mono ?_
  rintro e wn ⟨rfl, rfl⟩
  obtain ⟨c0, c1, c2, c3, c4⟩ := id hx
  go_wp2_with fail
  clear c0 c1 c2 c3 c4
  go_ret
  exact ⟨rfl, hb⟩

set_option maxRecDepth 100000 in
set_option maxHeartbeats 4000000 in
theorem areaForms_law (w : World) : Calls Try.prog 11 #[] w fun e w' => e = .returned (.bool true) ∧ Below w.heap.size w w' := by
  go_enter Try.func11, Try.ntmps11
  go_wp2_with fail
  refine (areaBegun_any _).mono ?_
  rintro e w0 ⟨rfl, hb0⟩
  go_wp2_with fail
  refine at_world fun w1 hw1 => ?_
  have hx := Box5.new w0 (0) (0) (200) (100) (0) 54
  have hb : Below w.heap.size w w1 := by rw [hw1]; exact below_trans (hb0) (below_new _ _) hb0.size
  rw [← hw1] at hx
  clear hw1
  refine (size_any (0) (0) (200) (100) (0) _ (by decide) (by decide)).mono ?_
  rintro e w2 ⟨rfl, hbn⟩
  have hx := hx.below hbn
  have hb := hb.trans (hbn.mono hb.size)
  clear hbn
  obtain ⟨c0, c1, c2, c3, c4⟩ := id hx
  go_wp2_with fail
  clear c0 c1 c2 c3 c4
  refine (log_any (0) (0) (200) (100) (0) (99) _ (by decide)).mono ?_
  rw [show rowAt 2 (100) (99) = 101 from by decide]
  rintro e w3 ⟨rfl, hbn⟩
  have hx := hx.below hbn
  have hb := hb.trans (hbn.mono hb.size)
  clear hbn
  obtain ⟨c0, c1, c2, c3, c4⟩ := id hx
  go_wp2_with fail
  clear c0 c1 c2 c3 c4
  refine (log_any (0) (0) (200) (100) (0) (100) _ (by decide)).mono ?_
  rw [show rowAt 2 (100) (100) = -1 from by decide]
  rintro e w4 ⟨rfl, hbn⟩
  have hx := hx.below hbn
  have hb := hb.trans (hbn.mono hb.size)
  clear hbn
  obtain ⟨c0, c1, c2, c3, c4⟩ := id hx
  go_wp2_with fail
  clear c0 c1 c2 c3 c4
  refine (home_any (0) (0) (200) (100) (0) (0) _ (by decide) (by decide)).mono ?_
  rw [show rowAt (2 + (100)) (200) (0) = 102 from by decide]
  rintro e w5 ⟨rfl, hbn⟩
  have hx := hx.below hbn
  have hb := hb.trans (hbn.mono hb.size)
  clear hbn
  obtain ⟨c0, c1, c2, c3, c4⟩ := id hx
  go_wp2_with fail
  clear c0 c1 c2 c3 c4
  refine (home_any (0) (0) (200) (100) (0) (199) _ (by decide) (by decide)).mono ?_
  rw [show rowAt (2 + (100)) (200) (199) = 301 from by decide]
  rintro e w6 ⟨rfl, hbn⟩
  have hx := hx.below hbn
  have hb := hb.trans (hbn.mono hb.size)
  clear hbn
  obtain ⟨c0, c1, c2, c3, c4⟩ := id hx
  go_wp2_with fail
  clear c0 c1 c2 c3 c4
  refine (home_any (0) (0) (200) (100) (0) (200) _ (by decide) (by decide)).mono ?_
  rw [show rowAt (2 + (100)) (200) (200) = -1 from by decide]
  rintro e w7 ⟨rfl, hbn⟩
  have hx := hx.below hbn
  have hb := hb.trans (hbn.mono hb.size)
  clear hbn
  obtain ⟨c0, c1, c2, c3, c4⟩ := id hx
  go_wp2_with fail
  clear c0 c1 c2 c3 c4
  refine (log_any (0) (0) (200) (100) (0) (-1) _ (by decide)).mono ?_
  rw [show rowAt 2 (100) (-1) = -1 from by decide]
  rintro e w8 ⟨rfl, hbn⟩
  have hx := hx.below hbn
  have hb := hb.trans (hbn.mono hb.size)
  clear hbn
  obtain ⟨c0, c1, c2, c3, c4⟩ := id hx
  go_wp2_with fail
  clear c0 c1 c2 c3 c4
  refine (home_any (0) (0) (200) (100) (0) (-1) _ (by decide) (by decide)).mono ?_
  rw [show rowAt (2 + (100)) (200) (-1) = -1 from by decide]
  rintro e w9 ⟨rfl, hbn⟩
  have hx := hx.below hbn
  have hb := hb.trans (hbn.mono hb.size)
  clear hbn
  obtain ⟨c0, c1, c2, c3, c4⟩ := id hx
  go_wp2_with fail
  clear c0 c1 c2 c3 c4
  refine (anchor_any 0 _ (by decide)).mono ?_
  rintro e wn ⟨rfl, rfl⟩
  obtain ⟨c0, c1, c2, c3, c4⟩ := id hx
  go_wp2_with fail
  clear c0 c1 c2 c3 c4
  refine (anchor_any 4294967295 _ (by decide)).mono ?_
  rintro e wn ⟨rfl, rfl⟩
  obtain ⟨c0, c1, c2, c3, c4⟩ := id hx
  go_wp2_with fail
  clear c0 c1 c2 c3 c4
  go_ret
  exact ⟨rfl, hb⟩
end Go.Proofs.Ytojebhpjllkdpaa.Cl
