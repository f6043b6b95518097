/- A string turned into bytes. -/
import Derived.Test.YtgeiafijibgdhaaNum
import Derived.Lib.ConvBytes
set_option linter.unusedVariables false
set_option linter.unusedSimpArgs false
namespace Go.Proofs.Ytgeiafijibgdhaa.Cl
open Go Go.Proofs Go.RowKit Fl

theorem bytes_of (w : World) (l : List UInt8) (hl : l.length ≤ 1000000) :
    ∃ (c : Nat) (W : World), (convert 9 37 (.string ⟨l.toArray⟩)).run Try.prog w = .ok (.slice (some ⟨w.heap.size, 0, none⟩) l.length c) W ∧ Rd W (.slice (some ⟨w.heap.size, 0, none⟩) l.length c) (bs l) ∧ Below w.heap.size w W := by
  have hsz : (⟨l.toArray⟩ : ByteArray).size = l.length := by simp [ByteArray.size]
  have h := Lib.run_convert_string_bytes (P := Try.prog) w 9 37 5 ⟨l.toArray⟩ Try.underlying9 Try.underlying37 Try.underlying5
  have h1 := grownCap_ge w (⟨l.toArray⟩ : ByteArray).size 0 5
  have h2 := grownCap_le_maxLen w (⟨l.toArray⟩ : ByteArray).size 0 5 (by rw [hsz]; unfold maxLen; omega)
  rw [hsz] at h h1 h2
  refine ⟨_, _, h, ⟨_, _, by rw [bs_length], by rw [bs_length]; exact h1, by unfold maxLen at h2; omega, fun j hj => ⟨_, rfl, ?_⟩, by simp⟩, ?_, ?_, ?_, ?_, ?_⟩
  · rw [bs_length] at hj
    rw [Addr.add_lit, Nat.zero_add, Lib.bytesWorld_cell _ _ _ _ (by rw [hsz]; exact hj)]
    simp [bs, List.getD, hj, u8]
  · simp [Lib.bytesWorld, World.freeze, World.alloc, World.drew, -World.alloc_eq, -World.drew_eq]
  · simp [Lib.bytesWorld, World.freeze, World.alloc, World.drew, -World.alloc_eq, -World.drew_eq]
  · simp [Lib.bytesWorld, World.freeze, World.alloc, World.drew, -World.alloc_eq, -World.drew_eq]
  · rw [Lib.bytesWorld_size]; omega
  · intro k hk
    exact Lib.bytesWorld_at_old _ _ _ _ hk
end Go.Proofs.Ytgeiafijibgdhaa.Cl
