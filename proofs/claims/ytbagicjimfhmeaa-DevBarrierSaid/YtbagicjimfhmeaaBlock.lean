/- slices.Grow and slices.Concat of two rows of bytes; block.four. -/
import Derived.Test.YtbagicjimfhmeaaNum
import Derived.Test.YtbagicjimfhmeaaRow
import Derived.Test.YtbagicjimfhmeaaRelyT
import Derived.Lib.AppendZeros
import Derived.Handy
import Derived.ScopeJumps
import Derived.WalkMore
set_option linter.unusedVariables false
set_option linter.unusedSimpArgs false
namespace Go.Proofs.Ytbagicjimfhmeaa.Cl
open Go Go.Proofs Go.RowKit Fl

theorem be4_lt (n : Nat) (h : n < 4294967296) : be 4 n = [UInt8.ofNat (n / 16777216), UInt8.ofNat (n / 65536), UInt8.ofNat (n / 256), UInt8.ofNat n] := by
  apply List.ext_getElem?
  intro i
  rcases i with _ | _ | _ | _ | i
  · rw [be_get? 4 n 0 (by omega)]; rfl
  · rw [be_get? 4 n 1 (by omega)]; rfl
  · rw [be_get? 4 n 2 (by omega)]; rfl
  · rw [be_get? 4 n 3 (by omega)]; simp
  · rw [List.getElem?_eq_none (by rw [be_length]; omega)]; simp
theorem zeroCells_size (z : Array Value) (n : Nat) : (Builtin.zeroCells z n).size = n * z.size := by simp [Builtin.zeroCells]

set_option maxRecDepth 100000 in
theorem grow_any (n : Nat) (w : World) (h0 : 0 < n) (hn : n ≤ 100000) :
    Calls Try.prog 50 #[.slice none 0 0, .int .i64 n] w fun e w' => ∃ u, e = .returned u ∧ OB w' w.heap.size u [] ∧ Below w.heap.size w w' := by
  obtain ⟨i5, hi5, hz5, hs5, hb5⟩ := info_parts info5
  have hr := Lib.run_append_nil_zeros (P := Try.prog) w 34 3 34 5 i5 (.int .u8 0) .i64 .i64 Try.underlying34 Try.underlying3 hi5 hz5 n h0 (by rw [hs5]; omega) (by omega) (by rw [hb5]; omega)
  have h0' : (0 : Int) < (n : Int) := by omega
  go_enter Try.func50, Try.ntmps50
  go_wp2_with (at_builtin; go_loud (refine Lib.wpList_append_run _ rfl _ _ _ _ rfl _ _ rfl rfl _ _ hr ?_))
  go_returns
  refine ⟨_, rfl, ⟨by simp, .inr ⟨w.heap.size, _, _, rfl, Nat.le_refl _, heap_alloc_last w.drew _, Nat.zero_le _, grownCap_le_maxLen w n 0 _ (by unfold maxLen; omega), ?_, by simp⟩⟩, (Below.refl _ _).drew.alloc (Nat.le_refl _) _⟩
  have := grownCap_ge w n 0 5
  rw [Array.size_append, zeroCells_size, zeroCells_size]
  show n * 1 + (grownCap w n 0 5 - n) * 1 = grownCap w n 0 5 * 1
  omega

/-- how many bytes the first j of two rows have -/
def szs (a b : Nat) : Nat → Nat
  | 0 => 0
  | 1 => a
  | _ => a + b
/-- the first j of two rows -/
def cat2 (a b : List UInt8) : Nat → List UInt8
  | 0 => []
  | 1 => a
  | _ => a ++ b
set_option maxRecDepth 100000 in
set_option maxHeartbeats 4000000 in
theorem concat_any (g : Nat) (v0 v1 : Value) (l0 l1 : List UInt8) (w : World) (c0 : w.cell? ⟨g, 0, none⟩ = some v0) (c1 : w.cell? ⟨g, 1, none⟩ = some v1) (h0 : Rd w v0 (bs l0)) (h1 : Rd w v1 (bs l1)) (hl : 0 < l0.length + l1.length) (hl2 : l0.length + l1.length ≤ 100000) :
    Calls Try.prog 44 #[.slice (some ⟨g, 0, none⟩) 2 2] w fun e w' => ∃ u, e = .returned u ∧ OB w' w.heap.size u (l0 ++ l1) ∧ Below w.heap.size w w' := by
  obtain ⟨a0, p0, rfl, q0, q0', _, _⟩ := id h0
  obtain ⟨a1, p1, rfl, q1, q1', _, _⟩ := id h1
  rw [bs_length] at *
  go_enter Try.func44, Try.ntmps44
  go_wp2_with fail
  go_loop [3, 11] (fun s i => ∃ j : Nat, j ≤ 2 ∧ i = .int .i64 j ∧ s = .int .i64 (szs l0.length l1.length j : Nat)) (fun _ i => 2 - (intOf i).toNat)
  case atStart => exact ⟨0, by omega, rfl, rfl⟩
  case round =>
    obtain ⟨j, hj, rfl, rfl⟩ := hrel
    rcases j with _ | _ | _ | j
    · simp only [szs]
      go_wp2_with fail
      go_round
      case rel => exact ⟨1, by omega, rfl, int_val (by simp [szs])⟩
      case measure => simp [intOf]
    · simp only [szs]
      go_wp2_with fail
      go_round
      case rel => exact ⟨2, by omega, rfl, int_val (by simp [szs])⟩
      case measure => simp [intOf]
    · simp only [szs]
      go_wp2_with fail
      refine (grow_any (l0.length + l1.length) _ hl hl2).mono ?_
      rintro e w2 ⟨u, rfl, hO, hb⟩
      have hOn : OB w2 w.heap.size u (cat2 l0 l1 0) := hO
      clear hO
      go_wp2_with fail
      go_loopw [6, 27] (fun s i wr => ∃ j : Nat, j ≤ 2 ∧ i = .int .i64 j ∧ OB wr w.heap.size s (cat2 l0 l1 j) ∧ Below w.heap.size w wr) (fun _ i _ => 2 - (intOf i).toNat)
      case atStart => exact ⟨0, by omega, rfl, hOn, hb⟩
      case round =>
        obtain ⟨j, hj, rfl, hO, hb⟩ := hrel
        have d0 := cell_later hb c0
        have d1 := cell_later hb c1
        have r0 := h0.below hb
        have r1 := h1.below hb
        rcases j with _ | _ | _ | j
        · skip
          go_wp2_with (at_builtin; go_loud (refine wpList_app w.heap.size _ _ (cat2 l0 l1 0) l0 rfl _ _ rfl rfl rfl hO r0 (by simp [cat2]; try omega) hb.size ?_))
          intro u3 w3 hO3 hb3 _
          have hb3 := hb.trans hb3
          go_wp2_with fail
          go_roundw
          case rel => exact ⟨1, by omega, rfl, by simpa [cat2] using hO3, hb3⟩
          case measure => simp [intOf]
        · skip
          go_wp2_with (at_builtin; go_loud (refine wpList_app w.heap.size _ _ (cat2 l0 l1 1) l1 rfl _ _ rfl rfl rfl hO r1 (by simp [cat2]; try omega) hb.size ?_))
          intro u3 w3 hO3 hb3 _
          have hb3 := hb.trans hb3
          go_wp2_with fail
          go_roundw
          case rel => exact ⟨2, by omega, rfl, by simpa [cat2] using hO3, hb3⟩
          case measure => simp [intOf]
        · go_wp2_with fail
          go_returns
          exact ⟨_, rfl, hO, hb⟩
        · omega
    · omega
end Go.Proofs.Ytbagicjimfhmeaa.Cl
