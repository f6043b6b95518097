/- The law RecForms: the walk. -/
import Derived.Test.YtgeiafijibgdhaaRecF
set_option linter.unusedVariables false
set_option linter.unusedSimpArgs false
namespace Go.Proofs.Ytgeiafijibgdhaa.Cl
open Go Go.Proofs Go.RowKit Fl Rely

def B9 : List UInt8 := 9 :: List.replicate 55 0
def W9 : Wr := (199, 7, B9)
theorem W9_ok : WrOk W9 := by simp [WrOk, W9, B9]
/-- thirteen writes, of which the first k are numbered -/
def stamped : Nat → List Wr
  | 0 => List.replicate 13 (0, 0, Z56)
  | k + 1 => (stamped k).set k ((k : Int), 0, Z56)
theorem stamped_length : ∀ k, (stamped k).length = 13
  | 0 => by simp [stamped]
  | k + 1 => by rw [stamped, List.length_set, stamped_length k]
theorem stamped_all : ∀ k, ∀ x ∈ stamped k, x.2 = (0, Z56)
  | 0, x, hx => by rw [stamped] at hx; rw [(List.mem_replicate.1 hx).2]
  | k + 1, x, hx => by
    rw [stamped] at hx
    rcases List.mem_or_eq_of_mem_set hx with h | rfl
    · exact stamped_all k x h
    · rfl
theorem stamped_ok (k : Nat) : ∀ x ∈ stamped k, WrOk x := fun x hx => by
  have := stamped_all k x hx
  unfold WrOk
  rw [this]
  exact Z56_length
theorem stamped_store {w : World} {g : Nat} (k : Nat) (hk : k < 13) (h : RowAt w g 71 ((stamped k).flatMap wrC).toArray) :
    (∃ z, w.cell? ⟨g, k * 58, none⟩ = some z) ∧ w.frozen? ⟨g, k * 58, none⟩ = false ∧ RowAt (w.setCell ⟨g, k * 58, none⟩ (.int .i64 k)) g 71 ((stamped (k + 1)).flatMap wrC).toArray ∧ w.grownBy (w.setCell ⟨g, k * 58, none⟩ (.int .i64 k)) (some g) ∧ (w.setCell ⟨g, k * 58, none⟩ (.int .i64 k)).heap.size = w.heap.size := by
  have hl := flat_length (c := wrC) (sz := 58) (xs := stamped k) (fun x hx => wrC_length (stamped_ok k x hx))
  rw [stamped_length] at hl
  obtain ⟨s1, s2, s3⟩ := RowAt.set h (k * 58) (.int .i64 k)
  refine ⟨⟨_, h.cell (k * 58) (((stamped k).flatMap wrC)[k * 58]'(by omega)) (by rw [List.getElem?_toArray, List.getElem?_eq_getElem])⟩, h.frozen, ?_, s2, s3⟩
  have hk' : k < (stamped k).length := by rw [stamped_length]; exact hk
  have e : (((stamped k).flatMap wrC).toArray).setIfInBounds (k * 58) (.int .i64 k) = ((stamped (k + 1)).flatMap wrC).toArray := by
    apply Array.ext'
    rw [Array.toList_setIfInBounds]
    show ((stamped k).flatMap wrC).set (k * 58) (.int .i64 k) = (stamped (k + 1)).flatMap wrC
    rw [flat_set (stamped_ok k) k hk' k, stamped_all k _ (List.getElem_mem hk')]
    rfl
  rwa [e] at s1
theorem f9_length : (recB 33 16909060 84281096 [W9]).length = 2 := rfl
theorem f9_good : okW [W9] := by decide +kernel
theorem f13_bad : ¬ okW (stamped 13) := by decide +kernel
theorem f12_good : okW ((stamped 13).take 12) := by decide +kernel
theorem f0_bad : ¬ okW [] := by decide +kernel
theorem f200_bad : ¬ okW [(200, 0, Z56)] := by decide +kernel
theorem fm1_bad : ¬ okW [(-1, 0, Z56)] := by decide +kernel
theorem f3_bad : ¬ okW [(3, 0, Z56), (3, 0, Z56)] := by decide +kernel
theorem f8_bad : ¬ okW [(0, 8, Z56)] := by decide +kernel
theorem f9_head : (headB 33 16909060 84281096 [W9]).take 14 = [72, 33, 1, 2, 3, 4, 5, 6, 7, 8, 1, 0, 199, 7] := by decide +kernel
theorem f9_image : (imageB 16909060 84281096 W9)[0]? = some 9 := by decide +kernel
theorem f9_tail : ((imageB 16909060 84281096 W9).drop 56).take 4 = [3, 4, 7, 8] := by decide +kernel
theorem fa_head : (anchorB 33 258).take 8 = [65, 78, 33, 0, 0, 1, 2, 0] := by decide +kernel
end Go.Proofs.Ytgeiafijibgdhaa.Cl
