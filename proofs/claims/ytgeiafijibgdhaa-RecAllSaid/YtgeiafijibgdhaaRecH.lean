/- rec: the document's TakeRec of a log that is too short. -/
import Derived.Test.YtgeiafijibgdhaaRecE
import Derived.Test.YtgeiafijibgdhaaRec7
set_option linter.unusedVariables false
set_option linter.unusedSimpArgs false
namespace Go.Proofs.Ytgeiafijibgdhaa.Cl
open Go Go.Proofs Go.RowKit Fl Rely

set_option maxRecDepth 100000 in
set_option maxHeartbeats 2000000 in
theorem refTake_no (label : UInt8) (epoch seq : Nat) (v : Value) (L : List (List UInt8)) (w : World) (hv : RdL w v L) (hno : ¬ fitR L) :
    Calls Try.prog 36 #[u8 label, .int .u32 epoch, .int .u32 seq, v] w fun e w' => e = .returned (.tuple #[.slice none 0 0, .int .i64 0, .bool false]) ∧ Below w.heap.size w w' := by
  obtain ⟨adL, capL, sl, rfl, hc1, hc2, hsl, hcell, hrd⟩ := hv.sl
  have hways : L.length = 0 ∨ (∃ h : 0 < L.length, L[0].length ≠ 64) ∨ (∃ h : 0 < L.length, L[0].length = 64 ∧ 12 < manyR L) ∨ (∃ h : 0 < L.length, L[0].length = 64 ∧ manyR L ≤ 12 ∧ L.length < manyR L + 1) := by
    by_cases h0 : L.length = 0
    · exact .inl h0
    · have h0' : 0 < L.length := by omega
      by_cases h1 : L[0].length = 64
      · by_cases h2 : manyR L ≤ 12
        · by_cases h3 : manyR L + 1 ≤ L.length
          · exact absurd ⟨h0', by rw [headOf_eq h0']; exact h1, h2, h3⟩ hno
          · exact .inr (.inr (.inr ⟨h0', h1, h2, by omega⟩))
        · exact .inr (.inr (.inl ⟨h0', h1, by omega⟩))
      · exact .inr (.inl ⟨h0', h1⟩)
  rcases hways with h0 | ⟨h0, h1⟩ | ⟨h0, h1, h2⟩ | ⟨h0, h1, h2, h3⟩
  · have e0 : ((L.length : Int) == 0) = true := by rw [beq_iff_eq]; omega
    clear hcell hrd hsl hv hno
    have H0 := Lib.hid h0
    clear h0
    go_enter Try.func36, Try.ntmps36
    go_wp2_with fail
    go_ret3
    exact ⟨rfl, Below.refl _ _⟩
  · skip
    obtain ⟨ad, rfl, hz⟩ := hcell 0 (by omega)
    have hr0 := hrd 0 (by omega) h0
    have e0 : ((L.length : Int) == 0) = false := by rw [beq_eq_false_iff_ne]; omega
    generalize sl[0]'(by omega) = s0 at *
    rw [Addr.add_zero'] at hz
    obtain ⟨a0, c0, rfl, q1, q2, _, _⟩ := hr0
    rw [bs_length] at hz
    have e1 : (((L[0]).length : Int) != 64) = true := by rw [bne_iff_ne]; omega
    have hpos : (0 : Int) < (L.length : Int) := by omega
    generalize (L[0]).length = n0 at *
    clear hcell hrd hsl hv hno h1
    go_enter Try.func36, Try.ntmps36
    go_wp2_with fail
    go_ret3
    exact ⟨rfl, Below.refl _ _⟩
  · skip
    obtain ⟨ad, rfl, hz⟩ := hcell 0 (by omega)
    have hr0 := hrd 0 (by omega) h0
    have e0 : ((L.length : Int) == 0) = false := by rw [beq_eq_false_iff_ne]; omega
    generalize sl[0]'(by omega) = s0 at *
    rw [Addr.add_zero'] at hz
    obtain ⟨a0, c0, rfl, q1, q2⟩ := hr0.some_ (by rw [bs_length]; omega)
    have hb10' := hr0.cellS 9 (by rw [bs_length]; omega)
    rw [bs_length] at hz q1
    have e1 : (((L[0]).length : Int) != 64) = false := by rw [bne_eq_false_iff_eq]; omega
    have hpos : (0 : Int) < (L.length : Int) := by omega
    have hm : manyR L = ((L[0])[10]'(by omega)).toNat := by unfold manyR; rw [headOf_eq h0, List.getElem?_eq_getElem (by omega)]; rfl
    rw [List.getElem_map] at hb10'
    rw [h1] at hz q1
    have hu := ((L[0])[10]'(by omega)).toNat_lt
    have hbv : (u8 ((L[0])[10]'(by omega))) = .int .u8 (manyR L : Nat) := by rw [hm]
    have hb10 : w.cell? { a0 with off := a0.off + 10, spot := none } = some (.int .u8 (manyR L : Nat)) := by rw [← hbv]; exact hb10'
    clear hb10'
    rw [← hm] at hu
    have e2 : IntKind.i64.wrap (manyR L : Int) = (manyR L : Int) := IntWalk.i64_in _ (by omega)
    generalize manyR L = m at *
    have e3 : (12 : Int) < (m : Int) := by omega
    clear hcell hrd hsl hv hno h1 hbv hm
    go_enter Try.func36, Try.ntmps36
    go_wp2_with fail
    go_ret3
    exact ⟨rfl, Below.refl _ _⟩
  · skip
    obtain ⟨ad, rfl, hz⟩ := hcell 0 (by omega)
    have hr0 := hrd 0 (by omega) h0
    have e0 : ((L.length : Int) == 0) = false := by rw [beq_eq_false_iff_ne]; omega
    generalize sl[0]'(by omega) = s0 at *
    rw [Addr.add_zero'] at hz
    obtain ⟨a0, c0, rfl, q1, q2⟩ := hr0.some_ (by rw [bs_length]; omega)
    have hb10' := hr0.cellS 9 (by rw [bs_length]; omega)
    rw [bs_length] at hz q1
    have e1 : (((L[0]).length : Int) != 64) = false := by rw [bne_eq_false_iff_eq]; omega
    have hpos : (0 : Int) < (L.length : Int) := by omega
    have hm : manyR L = ((L[0])[10]'(by omega)).toNat := by unfold manyR; rw [headOf_eq h0, List.getElem?_eq_getElem (by omega)]; rfl
    rw [List.getElem_map] at hb10'
    rw [h1] at hz q1
    have hu := ((L[0])[10]'(by omega)).toNat_lt
    have hbv : (u8 ((L[0])[10]'(by omega))) = .int .u8 (manyR L : Nat) := by rw [hm]
    have hb10 : w.cell? { a0 with off := a0.off + 10, spot := none } = some (.int .u8 (manyR L : Nat)) := by rw [← hbv]; exact hb10'
    clear hb10'
    rw [← hm] at hu
    have e2 : IntKind.i64.wrap (manyR L : Int) = (manyR L : Int) := IntWalk.i64_in _ (by omega)
    generalize manyR L = m at *
    have e3 : ¬ (12 : Int) < (m : Int) := by omega
    have e4 : (L.length : Int) < (m : Int) + 1 := by omega
    clear hcell hrd hsl hv hno h1 hbv hm
    go_enter Try.func36, Try.ntmps36
    go_wp2_with fail
    go_ret3
    exact ⟨rfl, Below.refl _ _⟩
end Go.Proofs.Ytgeiafijibgdhaa.Cl
