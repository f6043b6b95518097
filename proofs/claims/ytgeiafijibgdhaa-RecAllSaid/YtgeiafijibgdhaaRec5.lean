/- rec: Take: the walk (printed by mkrec.py). -/
import Derived.Test.YtgeiafijibgdhaaRec4
set_option linter.unusedVariables false
set_option linter.unusedSimpArgs false
namespace Go.Proofs.Ytgeiafijibgdhaa.Cl
open Go Go.Proofs Go.RowKit Fl Rely

theorem headOf_eq {L : List (List UInt8)} (h : 0 < L.length) : headOf L = L[0] := by unfold headOf; rw [List.getElem?_eq_getElem h]; rfl
theorem RdL.sl {w : World} {v : Value} {L : List (List UInt8)} (h : RdL w v L) : ∃ (a : Option Addr) (cap : Nat) (sl : List Value), v = .slice a L.length cap ∧ L.length ≤ cap ∧ cap ≤ 9223372036854775807 ∧ sl.length = L.length ∧ (∀ j (h : j < sl.length), ∃ ad, a = some ad ∧ w.cell? (ad.add j) = some sl[j]) ∧ ∀ j (h : j < sl.length) (h' : j < L.length), Rd w sl[j] (bs L[j]) := by
  obtain ⟨sl, ⟨a, cap, rfl, h1, h2, h3, h4⟩, h5, h6⟩ := h
  exact ⟨a, cap, sl, by rw [h5], by rw [← h5]; exact h1, h2, h5, h3, h6⟩

theorem frame_of (n : Nat) (tm : Array Value) (h : tm.size = n) : tm = ((List.range n).map fun i => tm.getD i undef).toArray := by
  subst h
  apply Array.ext
  · simp
  · intro i h1 h2
    simp [Array.getD, h1]
theorem slot_of {tm : Array Value} {i : Nat} {v : Value} (h : tm[i]? = some v) : (fun i => tm.getD i undef) i = v := by
  show tm.getD i undef = v
  rw [Array.getD_eq_getD_getElem?, h]
  rfl

set_option maxRecDepth 100000 in
set_option maxHeartbeats 1000000 in
theorem recTake_no (label : UInt8) (epoch seq : Nat) (v : Value) (L : List (List UInt8)) (w : World) (hv : RdL w v L) (hno : ¬ fitR L) :
    Calls Try.prog 35 #[u8 label, .int .u32 epoch, .int .u32 seq, v] w fun e w' => e = .returned (.tuple #[.slice none 0 0, .int .i64 0, .bool false]) ∧ Below w.heap.size w w' := by
  obtain ⟨adL, capL, sl, rfl, hc1, hc2, hsl, hcell, hrd⟩ := hv.sl
  have hways : L.length = 0 ∨ (∃ h : 0 < L.length, L[0].length ≠ 64) ∨ (∃ h : 0 < L.length, L[0].length = 64 ∧ 12 < manyR L) ∨ (∃ h : 0 < L.length, L[0].length = 64 ∧ manyR L ≤ 12 ∧ L.length < manyR L + 1) := by
    by_cases h0 : L.length = 0
    · exact .inl h0
    · have h0' : 0 < L.length := by omega
      by_cases h1 : L[0].length = 64
      · by_cases h2 : manyR L ≤ 12
        · by_cases h3 : manyR L + 1 ≤ L.length
          · exact absurd ⟨h0', by rw [headOf_eq h0']; exact h1, h2, h3⟩ hno
          · exact .inr (.inr (.inr ⟨h0', h1, h2, by omega⟩))
        · exact .inr (.inr (.inl ⟨h0', h1, by omega⟩))
      · exact .inr (.inl ⟨h0', h1⟩)
  rcases hways with h0 | ⟨h0, h1⟩ | ⟨h0, h1, h2⟩ | ⟨h0, h1, h2, h3⟩
  · have e0 : ((L.length : Int) == 0) = true := by rw [beq_iff_eq]; omega
    clear hcell hrd hsl hv hno
    have H0 := Lib.hid h0
    clear h0
    go_enter Try.func35, Try.ntmps35
    go_wp2_with fail
    refine wp_scope3 (fun a' w' => (w = w') ∧ a'.tmps.size = 105 ∧ a'.defers = []) (fun _ _ => False) (fun _ _ => False) (fun _ _ => 0) (fun _ _ => 0) rfl rfl rfl ?_ (fun _ _ h => h.elim) (fun _ _ h => h.elim) ?_
    · go_wp2_with fail
      go_step3
      refine ⟨?_, rfl, rfl⟩
      rfl
    · rintro ⟨tm, df⟩ wq ⟨rfl, hsz, hdf⟩
      dsimp only at hsz hdf
      subst hdf
      obtain ⟨z, hz⟩ : ∃ z : Nat → Value, z = fun i => tm.getD i undef := ⟨_, rfl⟩
      have htm : tm = #[z 0, z 1, z 2, z 3, z 4, z 5, z 6, z 7, z 8, z 9, z 10, z 11, z 12, z 13, z 14, z 15, z 16, z 17, z 18, z 19, z 20, z 21, z 22, z 23, z 24, z 25, z 26, z 27, z 28, z 29, z 30, z 31, z 32, z 33, z 34, z 35, z 36, z 37, z 38, z 39, z 40, z 41, z 42, z 43, z 44, z 45, z 46, z 47, z 48, z 49, z 50, z 51, z 52, z 53, z 54, z 55, z 56, z 57, z 58, z 59, z 60, z 61, z 62, z 63, z 64, z 65, z 66, z 67, z 68, z 69, z 70, z 71, z 72, z 73, z 74, z 75, z 76, z 77, z 78, z 79, z 80, z 81, z 82, z 83, z 84, z 85, z 86, z 87, z 88, z 89, z 90, z 91, z 92, z 93, z 94, z 95, z 96, z 97, z 98, z 99, z 100, z 101, z 102, z 103, z 104] := (frame_of 105 tm hsz).trans (by rw [← hz]; rfl)
      rw [htm]
      dsimp only
      clear htm hz hsz
      go_wp2_with fail
      simp only [jumps3]
      go_ret3
      exact ⟨rfl, Below.refl _ _⟩
  · skip
    obtain ⟨ad, rfl, hz⟩ := hcell 0 (by omega)
    have hr0 := hrd 0 (by omega) h0
    have e0 : ((L.length : Int) == 0) = false := by rw [beq_eq_false_iff_ne]; omega
    generalize sl[0]'(by omega) = s0 at *
    rw [Addr.add_zero'] at hz
    obtain ⟨a0, c0, rfl, q1, q2, _, _⟩ := hr0
    rw [bs_length] at hz
    have e1 : (((L[0]).length : Int) != 64) = true := by rw [bne_iff_ne]; omega
    have hpos : (0 : Int) < (L.length : Int) := by omega
    generalize (L[0]).length = n0 at *
    clear hcell hrd hsl hv hno h1
    go_enter Try.func35, Try.ntmps35
    go_wp2_with fail
    refine wp_scope3 (fun a' w' => (w = w') ∧ a'.tmps.size = 105 ∧ a'.defers = []) (fun _ _ => False) (fun _ _ => False) (fun _ _ => 0) (fun _ _ => 0) rfl rfl rfl ?_ (fun _ _ h => h.elim) (fun _ _ h => h.elim) ?_
    · go_wp2_with fail
      go_step3
      refine ⟨?_, rfl, rfl⟩
      rfl
    · rintro ⟨tm, df⟩ wq ⟨rfl, hsz, hdf⟩
      dsimp only at hsz hdf
      subst hdf
      obtain ⟨z, hz⟩ : ∃ z : Nat → Value, z = fun i => tm.getD i undef := ⟨_, rfl⟩
      have htm : tm = #[z 0, z 1, z 2, z 3, z 4, z 5, z 6, z 7, z 8, z 9, z 10, z 11, z 12, z 13, z 14, z 15, z 16, z 17, z 18, z 19, z 20, z 21, z 22, z 23, z 24, z 25, z 26, z 27, z 28, z 29, z 30, z 31, z 32, z 33, z 34, z 35, z 36, z 37, z 38, z 39, z 40, z 41, z 42, z 43, z 44, z 45, z 46, z 47, z 48, z 49, z 50, z 51, z 52, z 53, z 54, z 55, z 56, z 57, z 58, z 59, z 60, z 61, z 62, z 63, z 64, z 65, z 66, z 67, z 68, z 69, z 70, z 71, z 72, z 73, z 74, z 75, z 76, z 77, z 78, z 79, z 80, z 81, z 82, z 83, z 84, z 85, z 86, z 87, z 88, z 89, z 90, z 91, z 92, z 93, z 94, z 95, z 96, z 97, z 98, z 99, z 100, z 101, z 102, z 103, z 104] := (frame_of 105 tm hsz).trans (by rw [← hz]; rfl)
      rw [htm]
      dsimp only
      clear htm hz hsz
      go_wp2_with fail
      simp only [jumps3]
      go_ret3
      exact ⟨rfl, Below.refl _ _⟩
  · skip
    obtain ⟨ad, rfl, hz⟩ := hcell 0 (by omega)
    have hr0 := hrd 0 (by omega) h0
    have e0 : ((L.length : Int) == 0) = false := by rw [beq_eq_false_iff_ne]; omega
    generalize sl[0]'(by omega) = s0 at *
    rw [Addr.add_zero'] at hz
    obtain ⟨a0, c0, rfl, q1, q2⟩ := hr0.some_ (by rw [bs_length]; omega)
    have hb10' := hr0.cellS 9 (by rw [bs_length]; omega)
    rw [bs_length] at hz q1
    have e1 : (((L[0]).length : Int) != 64) = false := by rw [bne_eq_false_iff_eq]; omega
    have hpos : (0 : Int) < (L.length : Int) := by omega
    have hm : manyR L = ((L[0])[10]'(by omega)).toNat := by unfold manyR; rw [headOf_eq h0, List.getElem?_eq_getElem (by omega)]; rfl
    rw [List.getElem_map] at hb10'
    rw [h1] at hz q1
    have hu := ((L[0])[10]'(by omega)).toNat_lt
    have hbv : (u8 ((L[0])[10]'(by omega))) = .int .u8 (manyR L : Nat) := by rw [hm]
    have hb10 : w.cell? { a0 with off := a0.off + 10, spot := none } = some (.int .u8 (manyR L : Nat)) := by rw [← hbv]; exact hb10'
    clear hb10'
    rw [← hm] at hu
    have e2 : IntKind.i64.wrap (manyR L : Int) = (manyR L : Int) := IntWalk.i64_in _ (by omega)
    generalize manyR L = m at *
    have e3 : (12 : Int) < (m : Int) := by omega
    clear hcell hrd hsl hv hno h1 hbv hm
    go_enter Try.func35, Try.ntmps35
    go_wp2_with fail
    refine wp_scope3 (fun a' w' => (w = w') ∧ a'.tmps.size = 105 ∧ a'.defers = []) (fun _ _ => False) (fun _ _ => False) (fun _ _ => 0) (fun _ _ => 0) rfl rfl rfl ?_ (fun _ _ h => h.elim) (fun _ _ h => h.elim) ?_
    · go_wp2_with fail
      go_step3
      refine ⟨?_, rfl, rfl⟩
      rfl
    · rintro ⟨tm, df⟩ wq ⟨rfl, hsz, hdf⟩
      dsimp only at hsz hdf
      subst hdf
      obtain ⟨z, hz⟩ : ∃ z : Nat → Value, z = fun i => tm.getD i undef := ⟨_, rfl⟩
      have htm : tm = #[z 0, z 1, z 2, z 3, z 4, z 5, z 6, z 7, z 8, z 9, z 10, z 11, z 12, z 13, z 14, z 15, z 16, z 17, z 18, z 19, z 20, z 21, z 22, z 23, z 24, z 25, z 26, z 27, z 28, z 29, z 30, z 31, z 32, z 33, z 34, z 35, z 36, z 37, z 38, z 39, z 40, z 41, z 42, z 43, z 44, z 45, z 46, z 47, z 48, z 49, z 50, z 51, z 52, z 53, z 54, z 55, z 56, z 57, z 58, z 59, z 60, z 61, z 62, z 63, z 64, z 65, z 66, z 67, z 68, z 69, z 70, z 71, z 72, z 73, z 74, z 75, z 76, z 77, z 78, z 79, z 80, z 81, z 82, z 83, z 84, z 85, z 86, z 87, z 88, z 89, z 90, z 91, z 92, z 93, z 94, z 95, z 96, z 97, z 98, z 99, z 100, z 101, z 102, z 103, z 104] := (frame_of 105 tm hsz).trans (by rw [← hz]; rfl)
      rw [htm]
      dsimp only
      clear htm hz hsz
      go_wp2_with fail
      simp only [jumps3]
      go_ret3
      exact ⟨rfl, Below.refl _ _⟩
  · skip
    obtain ⟨ad, rfl, hz⟩ := hcell 0 (by omega)
    have hr0 := hrd 0 (by omega) h0
    have e0 : ((L.length : Int) == 0) = false := by rw [beq_eq_false_iff_ne]; omega
    generalize sl[0]'(by omega) = s0 at *
    rw [Addr.add_zero'] at hz
    obtain ⟨a0, c0, rfl, q1, q2⟩ := hr0.some_ (by rw [bs_length]; omega)
    have hb10' := hr0.cellS 9 (by rw [bs_length]; omega)
    rw [bs_length] at hz q1
    have e1 : (((L[0]).length : Int) != 64) = false := by rw [bne_eq_false_iff_eq]; omega
    have hpos : (0 : Int) < (L.length : Int) := by omega
    have hm : manyR L = ((L[0])[10]'(by omega)).toNat := by unfold manyR; rw [headOf_eq h0, List.getElem?_eq_getElem (by omega)]; rfl
    rw [List.getElem_map] at hb10'
    rw [h1] at hz q1
    have hu := ((L[0])[10]'(by omega)).toNat_lt
    have hbv : (u8 ((L[0])[10]'(by omega))) = .int .u8 (manyR L : Nat) := by rw [hm]
    have hb10 : w.cell? { a0 with off := a0.off + 10, spot := none } = some (.int .u8 (manyR L : Nat)) := by rw [← hbv]; exact hb10'
    clear hb10'
    rw [← hm] at hu
    have e2 : IntKind.i64.wrap (manyR L : Int) = (manyR L : Int) := IntWalk.i64_in _ (by omega)
    generalize manyR L = m at *
    have e3 : ¬ (12 : Int) < (m : Int) := by omega
    have e4 : (L.length : Int) < (m : Int) + 1 := by omega
    clear hcell hrd hsl hv hno h1 hbv hm
    go_enter Try.func35, Try.ntmps35
    go_wp2_with fail
    refine wp_scope3 (fun a' w' => (w = w') ∧ a'.tmps.size = 105 ∧ a'.defers = []) (fun _ _ => False) (fun _ _ => False) (fun _ _ => 0) (fun _ _ => 0) rfl rfl rfl ?_ (fun _ _ h => h.elim) (fun _ _ h => h.elim) ?_
    · go_wp2_with fail
      go_step3
      refine ⟨?_, rfl, rfl⟩
      rfl
    · rintro ⟨tm, df⟩ wq ⟨rfl, hsz, hdf⟩
      dsimp only at hsz hdf
      subst hdf
      obtain ⟨z, hz⟩ : ∃ z : Nat → Value, z = fun i => tm.getD i undef := ⟨_, rfl⟩
      have htm : tm = #[z 0, z 1, z 2, z 3, z 4, z 5, z 6, z 7, z 8, z 9, z 10, z 11, z 12, z 13, z 14, z 15, z 16, z 17, z 18, z 19, z 20, z 21, z 22, z 23, z 24, z 25, z 26, z 27, z 28, z 29, z 30, z 31, z 32, z 33, z 34, z 35, z 36, z 37, z 38, z 39, z 40, z 41, z 42, z 43, z 44, z 45, z 46, z 47, z 48, z 49, z 50, z 51, z 52, z 53, z 54, z 55, z 56, z 57, z 58, z 59, z 60, z 61, z 62, z 63, z 64, z 65, z 66, z 67, z 68, z 69, z 70, z 71, z 72, z 73, z 74, z 75, z 76, z 77, z 78, z 79, z 80, z 81, z 82, z 83, z 84, z 85, z 86, z 87, z 88, z 89, z 90, z 91, z 92, z 93, z 94, z 95, z 96, z 97, z 98, z 99, z 100, z 101, z 102, z 103, z 104] := (frame_of 105 tm hsz).trans (by rw [← hz]; rfl)
      rw [htm]
      dsimp only
      clear htm hz hsz
      go_wp2_with fail
      simp only [jumps3]
      go_ret3
      exact ⟨rfl, Below.refl _ _⟩
end Go.Proofs.Ytgeiafijibgdhaa.Cl
