/- The law InoForms. -/
import Derived.Test.YtojebhpjllkdpaaInoLaws
import Derived.Test.YtojebhpjllkdpaaConv
set_option linter.unusedVariables false
set_option linter.unusedSimpArgs false
namespace Go.Proofs.Ytojebhpjllkdpaa.Cl
open Go Go.Proofs Go.RowKit Fl Rely

/-- eight who may not be -/
def badA : Nat → Int | 1 => -1 | 2 => -1 | 3 => -2 | 4 => 8 | _ => 0
def badB : Nat → Int | 1 => 1 | 4 => 1 | 6 => 200 | 7 => 1 | _ => 0
def badC : Nat → Int | 2 => 1 | 4 => 1 | 5 => 1 | 6 => 1 | _ => 0
/-- seven bytes that are nobody -/
def nob : Nat → List UInt8
  | 1 => [0, 0, 1, 0, 0, 0] | 2 => [8, 0, 1, 0, 0, 0, 1] | 3 => [255, 0, 1, 0, 0, 0, 0] | 4 => [0, 0, 0, 0, 0, 0, 1] | 5 => [0, 0, 200, 0, 0, 0, 1] | 6 => [0, 0, 1, 0, 0, 0, 0] | _ => []
theorem lt8 {k : Nat} (h : k < 8) : k = 0 ∨ k = 1 ∨ k = 2 ∨ k = 3 ∨ k = 4 ∨ k = 5 ∨ k = 6 ∨ k = 7 := by omega
theorem bad_not {k : Nat} (h : k < 8) : mayID (badA k) (badB k) (badC k) = false ∧ (-9223372036854775808 ≤ badA k ∧ badA k ≤ 9223372036854775807) ∧ (-9223372036854775808 ≤ badB k ∧ badB k ≤ 9223372036854775807) ∧ badC k < 4294967296 := by
  rcases lt8 h with rfl | rfl | rfl | rfl | rfl | rfl | rfl | rfl <;> decide
theorem nob_not {k : Nat} (h : k < 8) : takeID (nob k) = (0, 0, 0, false) := by
  rcases lt8 h with rfl | rfl | rfl | rfl | rfl | rfl | rfl | rfl <;> decide

set_option maxRecDepth 100000 in
set_option maxHeartbeats 4000000 in
theorem inoForms_law (w : World) :
    Calls Try.prog 9 #[] w fun e w' => e = .returned (.bool true) ∧ Below w.heap.size w w' := by
  go_enter Try.func9, Try.ntmps9
  go_wp2_with fail
  refine (inoBegun_any _).mono ?_
  rintro e w1 ⟨rfl, hb1⟩
  go_wp2_with fail
  refine at_wp fun w2 hw2 => ?_
  have hc0 : ∀ k, k < 8 → w2.cell? ⟨w1.heap.size, k * 3, none⟩ = some (.int .i64 (badA k)) ∧ w2.cell? ⟨w1.heap.size, k * 3 + 1, none⟩ = some (.int .i64 (badB k)) ∧ w2.cell? ⟨w1.heap.size, k * 3 + 2, none⟩ = some (.int .u32 (badC k)) := by
    intro k hk
    rw [hw2]
    rcases lt8 hk with rfl | rfl | rfl | rfl | rfl | rfl | rfl | rfl <;> simp [badA, badB, badC]
  have hb2 : Below w.heap.size w w2 := by rw [hw2]; exact hb1.trans (below_mono (below_new _ _) hb1.size)
  clear hw2 hb1
  go_loopw [2] (fun i wr => ∃ k : Nat, k ≤ 8 ∧ i = .int .i64 k ∧ Below w2.heap.size w2 wr) (fun i _ => 8 - (intOf i).toNat)
  case atStart => exact ⟨0, by omega, rfl, Below.refl _ _⟩
  case round =>
    obtain ⟨k, hk, rfl, hbel⟩ := hrel
    by_cases hlt : k < 8
    · obtain ⟨hn, hA, hB, hC⟩ := bad_not hlt
      have h1 := cell_later hbel (hc0 k hlt).1
      have h2 := cell_later hbel (hc0 k hlt).2.1
      have h3 := cell_later hbel (hc0 k hlt).2.2
      have hput := put_nil _ _ _ hn
      go_wp2_with fail
      refine (may_any _ _ _ _ hA hB).mono ?_
      rw [hn]
      rintro e w3 ⟨rfl, hb3⟩
      have h1 := cell_later hb3 h1
      have h2 := cell_later hb3 h2
      have h3 := cell_later hb3 h3
      have hb3 := hbel.trans (hb3.mono hbel.size)
      go_wp2_with fail
      refine (put_any _ _ _ _ hA hB hC).mono ?_
      rintro e w4 ⟨u, rfl, _, hu, _, hb4⟩
      obtain rfl := hu hn
      have hb4 := hb3.trans (hb4.mono hb3.size)
      go_wp2_with fail
      go_roundw
      case rel => exact ⟨k + 1, by omega, by go_num, hb4⟩
      case measure => simp [intOf]; omega
    · obtain rfl : k = 8 := by omega
      have hb3 := hb2.trans (hbel.mono hb2.size)
      clear hc0 hb2 hbel hlt hk
      go_wp2_with fail
      refine at_wp fun w4 hw4 => ?_
      have hc0 : ∀ k, k < 7 → w4.cell? ⟨wr.heap.size, k, none⟩ = some (.string ⟨(nob k).toArray⟩) := by
        intro k hk
        rw [hw4]
        rcases lt8 (show k < 8 by omega) with rfl | rfl | rfl | rfl | rfl | rfl | rfl | rfl <;> first | omega | simp [nob]
      have hb4 : Below w.heap.size w w4 := by rw [hw4]; exact hb3.trans (below_mono (below_new _ _) hb3.size)
      clear hw4 hb3
      have heq2 : ∀ w, (binOp .neq 33 (idv 0 0 0) (idv 0 0 0)).run Try.prog w = .ok (.bool false) w := fun w => by simp [go_sem]
      rw [show ((8 : Nat) : Int) = 8 from rfl]
      go_loopw [4] (fun i wr => ∃ k : Nat, k ≤ 7 ∧ i = .int .i64 k ∧ Below w4.heap.size w4 wr) (fun i _ => 7 - (intOf i).toNat)
      case atStart => exact ⟨0, by omega, rfl, Below.refl _ _⟩
      case round =>
        obtain ⟨k, hk, rfl, hbel⟩ := hrel
        by_cases hlt : k < 7
        · have h1 := cell_later hbel (hc0 k hlt)
          have htk := nob_not (show k < 8 by omega)
          have htv := takeV_of htk
          obtain ⟨c, w5, hcv, hrd, hb5⟩ := bytes_of wr (nob k) (by rcases lt8 (show k < 8 by omega) with rfl | rfl | rfl | rfl | rfl | rfl | rfl | rfl <;> decide)
          go_wp2_with fail
          refine (take_any _ _ _ hrd).mono ?_
          rw [htv]
          rintro e w6 ⟨rfl, hb6⟩
          have hb6 := (hbel.trans (hb5.mono hbel.size)).trans (hb6.mono (Nat.le_trans hbel.size hb5.size))
          go_wp2_with fail
          go_roundw
          case rel => exact ⟨k + 1, by omega, by go_num, hb6.trans (below_mono (below_new _ _) hb6.size)⟩
          case measure => simp [intOf]; omega
        · obtain rfl : k = 7 := by omega
          have hb5 := hb4.trans (hbel.mono hb4.size)
          have p1 : putID (-1) 0 0 = [255, 0, 0, 0, 0, 0, 0] := by decide
          have p2 : putID 7 199 258 = [7, 0, 199, 0, 0, 1, 2] := by decide
          clear hc0 hb4 hbel hlt hk
          go_wp2_with fail
          refine (root_any _).mono ?_
          rintro e w6 ⟨rfl, hb6⟩
          have hb6 := hb5.trans (hb6.mono hb5.size)
          go_wp2_with fail
          refine (put_any (-1) 0 0 _ (by decide) (by decide) (by decide)).mono ?_
          rintro e w7 ⟨u2, rfl, hu2, _, _, hb7⟩
          rw [p1] at hu2
          have hb7 := hb6.trans (hb7.mono hb6.size)
          have hcu := run_string_of (P := Try.prog) hu2.rd 22 5 9 Try.underlying22 Try.underlying5 Try.underlying9
          go_wp2_with fail
          refine (put_any 7 199 258 _ (by decide) (by decide) (by decide)).mono ?_
          rintro e w8 ⟨u3, rfl, hu3, _, _, hb8⟩
          rw [p2] at hu3
          have hb8 := hb7.trans (hb8.mono hb7.size)
          have hcv := run_string_of (P := Try.prog) hu3.rd 22 5 9 Try.underlying22 Try.underlying5 Try.underlying9
          go_wp2_with fail
          go_ret
          exact ⟨rfl, hb8⟩
end Go.Proofs.Ytojebhpjllkdpaa.Cl
