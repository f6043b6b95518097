/- The walks of sum, of the reference's Sum, of Out and Intact, of begun. -/
import Derived.Test.YtgeiafijibgdhaaProg
import Derived.Test.YtgeiafijibgdhaaBase
import Derived.Test.YtgeiafijibgdhaaPure
import Derived.Lib.SlBytesConst
set_option linter.unusedVariables false
set_option linter.unusedSimpArgs false
namespace Go.Proofs.Ytgeiafijibgdhaa.Cl
open Go Go.Proofs Go.RowKit Fl

theorem info5 : (Try.prog.info? 5).map (fun i => (i.zero, i.size, i.bytes)) = some (some (.int .u8 0), 1, 1) := by kernel_rfl
theorem start_cx {l : List UInt8} : Value.complex .f64 4607182418800017408 0 = .complex .f64 (fl (sumSt (List.take 0 l)).1) (fl (sumSt (List.take 0 l)).2) := by
  rw [List.take_zero]; show _ = Value.complex .f64 (fl 1) (fl 0); rw [fl1, fl0]

theorem sumOn_any (p : Nat × Nat) (b : UInt8) (w : World) (h1 : p.1 < 65521 ∧ p.2 < 65521) :
   Calls Try.prog 82 #[.complex .f64 (fl p.1) (fl p.2), .int .u8 (b.toNat : Int)] w fun e w' => e = .returned (.complex .f64 (fl (sumOn p b).1) (fl (sumOn p b).2)) ∧ w = w' := by
  obtain ⟨a, c⟩ := p
  obtain ⟨h1, h2⟩ := h1
  have hb := b.toNat_lt
  unfold sumOn
  generalize b.toNat = b at *
  dsimp only at *
  have e1 := conv_fi Try.prog 106 3 .i64 a (by kernel_rfl) Try.underlying3 (by omega) (by rw [min64]; omega) (by rw [max64]; omega)
  have e2 := conv_fi Try.prog 106 3 .i64 c (by kernel_rfl) Try.underlying3 (by omega) (by rw [min64]; omega) (by rw [max64]; omega)
  go_enter Try.func82, Try.ntmps82
  go_wp2
  go_ret
  refine ⟨?_, rfl⟩
  exact ret_cx (by omega) (by omega)

theorem sum_any (v : Value) (l : List UInt8) (w : World) (hv : Rd w v (bs l)) :
    Calls Try.prog 80 #[v] w fun e w' => e = .returned (.int .u32 (sumN l)) ∧ w = w' := by
  obtain ⟨a, cap, rfl, hc1, hc2, hcell, _⟩ := hv
  rw [List.length_map] at *
  go_enter Try.func80, Try.ntmps80
  go_wp2
  go_loop [3, 8] (fun z i => ∃ k : Nat, k ≤ l.length ∧ i = .int .i64 k ∧ z = .complex .f64 (fl (sumSt (l.take k)).1) (fl (sumSt (l.take k)).2)) (fun _ i => l.length - (intOf i).toNat)
  case atStart => exact ⟨0, Nat.zero_le _, rfl, start_cx⟩
  case round =>
    obtain ⟨k, hk, rfl, rfl⟩ := hrel
    have hlt0 := sumSt_lt (l.take k)
    by_cases hlt : k < l.length
    · obtain ⟨ad, rfl, hcx⟩ := hcell k (by rw [List.length_map]; exact hlt)
      clear hcell
      have hts := Lib.hid (take_snoc l k hlt)
      rw [List.getElem_map] at hcx
      go_wp2_with (go_at_call 82; refine (sumOn_any _ _ _ hlt0).mono ?_; rintro e w' ⟨rfl, rfl⟩)
      go_round
      case rel => exact ⟨k + 1, by omega, by go_num, by rw [hts.out, sumSt_snoc]⟩
      case measure => simp [intOf]; omega
    · obtain rfl : k = l.length := by omega
      rw [List.take_length] at *
      have e1 := conv_fi Try.prog 106 22 .u32 (sumSt l).1 (by kernel_rfl) Try.underlying22 (by omega) (by rw [minu32]; omega) (by rw [maxu32]; omega)
      have e2 := conv_fi Try.prog 106 22 .u32 (sumSt l).2 (by kernel_rfl) Try.underlying22 (by omega) (by rw [minu32]; omega) (by rw [maxu32]; omega)
      go_wp2
      go_ret
      exact ⟨ret_int (by unfold sumN; omega), rfl⟩

theorem refSum_any (v : Value) (l : List UInt8) (w : World) (hv : Rd w v (bs l)) :
    Calls Try.prog 79 #[v] w fun e w' => e = .returned (.int .u32 (sumN l)) ∧ w = w' := by
  obtain ⟨a, cap, rfl, hc1, hc2, hcell, _⟩ := hv
  rw [List.length_map] at *
  go_enter Try.func79, Try.ntmps79
  go_wp2
  go_loop [3, 4, 5] (fun x y i => ∃ k : Nat, k ≤ l.length ∧ i = .int .i64 k ∧ x = .int .u64 (sumSt (l.take k)).1 ∧ y = .int .u64 (sumSt (l.take k)).2) (fun _ _ i => l.length - (intOf i).toNat)
  case atStart => exact ⟨0, Nat.zero_le _, rfl, rfl, rfl⟩
  case round =>
    obtain ⟨k, hk, rfl, rfl, rfl⟩ := hrel
    have hlt0 := sumSt_lt (l.take k)
    by_cases hlt : k < l.length
    · obtain ⟨ad, rfl, hcx⟩ := hcell k (by rw [List.length_map]; exact hlt)
      clear hcell
      have hts := Lib.hid (take_snoc l k hlt)
      rw [List.getElem_map] at hcx
      have hb := l[k].toNat_lt
      go_wp2
      go_round
      case rel =>
        refine ⟨k + 1, by omega, by go_num, ?_, ?_⟩
        · rw [hts.out, sumSt_snoc]; unfold sumOn; exact int_val (by omega)
        · rw [hts.out, sumSt_snoc]; unfold sumOn; exact int_val (by omega)
      case measure => simp [intOf]; omega
    · obtain rfl : k = l.length := by omega
      rw [List.take_length] at *
      go_wp2
      go_ret
      exact ⟨ret_int (by unfold sumN; omega), rfl⟩

end Go.Proofs.Ytgeiafijibgdhaa.Cl
