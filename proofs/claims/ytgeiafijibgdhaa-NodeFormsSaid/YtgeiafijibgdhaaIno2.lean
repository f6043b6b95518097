/- The walks of ino's bytes and of the reference's. -/
import Derived.Test.YtgeiafijibgdhaaIno
import Derived.Deep.RegionHeld3
set_option linter.unusedVariables false
set_option linter.unusedSimpArgs false
namespace Go.Proofs.Ytgeiafijibgdhaa.Cl
open Go Go.Proofs Go.RowKit Fl Rely

set_option maxHeartbeats 2000000 in
theorem refPut_any (a b c : Int) (w : World) (hc : c < 4294967296) :
    Calls Try.prog 57 #[idv a b c] w fun e w' => ∃ u, e = .returned u ∧ OB w' w.heap.size u (putID a b c) ∧ Below w.heap.size w w' := by
  obtain ⟨i5, hi5, hz5, hs5, hb5⟩ := info_parts info5
  have hm := fun w => refMay_any a b c w
  by_cases hmay : mayID a b c = true
  · rw [hmay] at hm
    have hput : putID a b c = UInt8.ofNat (a % 256).toNat :: (be 2 b.toNat ++ be 4 c.toNat) := by unfold putID; rw [if_pos hmay]
    have hbd : -1 ≤ a ∧ a < 8 ∧ 0 ≤ b ∧ b < 200 ∧ 0 ≤ c := by unfold mayID at hmay; simp only [decide_eq_true_eq] at hmay; omega
    obtain ⟨ha1, ha2, hb1, hb2, hc1⟩ := hbd
    obtain ⟨bn, rfl⟩ := Int.eq_ofNat_of_zero_le hb1
    obtain ⟨cn, rfl⟩ := Int.eq_ofNat_of_zero_le hc1
    rw [Int.toNat_natCast, Int.toNat_natCast] at hput
    have Hput := Lib.hid hput
    clear hmay hput hb1 hc1
    have e1 : IntKind.u64.wrap (bn : Int) = (bn : Int) := IntWalk.u64_in _ (by omega)
    have e2 : IntKind.u64.wrap (cn : Int) = (cn : Int) := IntWalk.u64_in _ (by omega)
    have e3 := wrap8 a
    have hbn64 : bn < 18446744073709551616 := by omega
    have hcn64 : cn < 18446744073709551616 := by omega
    generalize UInt8.ofNat (a % 256).toNat = x0 at *
    have hle1 : [x0].length ≤ 9223372036854775807 := by simp
    have hl1 : [x0].length + (be 2 bn).length ≤ 1000000 := by rw [be_length]; simp
    have hl2 : ([x0] ++ be 2 bn).length + (be 4 cn).length ≤ 1000000 := by rw [List.length_append, be_length, be_length]; simp
    go_enter Try.func57, Try.ntmps57
    go_wp2_with fail
    refine (hm _).mono ?_
    rintro e w1 ⟨rfl, hb1⟩
    have hx := (Box3.new w (.int .i64 a) (.int .i64 bn) (.int .u32 cn) 41).below hb1
    have hlt : w.heap.size < w1.heap.size := by have := hb1.size; simp at this; omega
    have hb1 := (below_new_then hb1).drew
    go_wp2_with fail
    obtain ⟨B, hB⟩ : ∃ B, B = w1.heap.size := ⟨_, rfl⟩
    have hsz : B ≤ w1.drew.heap.size := by rw [hB]; exact Nat.le_refl _
    have hgB : w.heap.size < B := by rw [hB]; exact hlt
    have hx := hx.drew

    clear hB hlt
    go_region_held3 (fun W => (W.cell? ⟨w.heap.size, 0, none⟩ = some (.int .i64 a) ∧ W.cell? ⟨w.heap.size, 1, none⟩ = some (.int .i64 bn) ∧ W.cell? ⟨w.heap.size, 2, none⟩ = some (.int .u32 cn)) ∧ Below B w1.drew W)
      (first
        | exact ⟨hx, Below.refl _ _⟩
        | (refine keepIn3 hbn hgB ?_; assumption)
        | exact keepIn3 (below_mono (below_new w1.drew _) hsz) hgB ⟨hx, Below.refl _ _⟩
        | (refine keepIn3 (below_mono (below_new w2 _) (below_size hbn hsz)) hgB ?_; assumption))
      (first
        | (go_at_call 46; (with_reducible refine (high2_any bn B _ hbn64 ?_).mono ?_); (apply in_size; assumption; exact hsz); rintro e w2 ⟨u2, rfl, ho2, hb2, hbn⟩)
        | (go_at_call 46; (with_reducible refine (high4_any cn B _ hcn64 ?_).mono ?_); (apply in_size; assumption; exact hsz); rintro e w4 ⟨u4, rfl, ho4, hb4, hbn⟩; have ho14 := OB.below ho14 hb4)
        | (refine want_pos rfl ?_; refine wp_app B _ _ [x0] (be 2 bn) _ _ rfl rfl rfl (OB.below (OB.lit B w1.drew [x0] 1 rfl hsz hle1) hb2) (OB.rd ho2) hl1 ?_ ?_; (apply in_size; assumption; exact hsz); intro u14 w3 ho14 hbn)
        | (refine want_pos rfl ?_; refine wp_app B _ _ [x0] (be 2 bn) _ _ rfl rfl rfl (OB.lit B w2 [x0] 1 rfl (below_size hbn hsz) hle1) (OB.rd (OB.below ho2 (below_new w2 _))) hl1 ?_ ?_; (apply in_size; assumption; exact hsz); intro u14 w3 ho14 hbn)
        | (refine want_pos rfl ?_; refine wp_app B _ _ _ (be 4 cn) _ _ rfl rfl rfl ho14 (OB.rd ho4) hl2 ?_ ?_; (apply in_size; assumption; exact hsz); intro u19 w5 ho19 hbn))
    all_goals
      have hS : Below B w1.drew w5 := And.right (by assumption)
      go_wp2
      go_ret
      refine ⟨_, rfl, ?_, hb1.trans (hS.mono (Nat.le_of_lt hgB))⟩
      rw [Hput.out]
      exact OB.mono ho19 (Nat.le_of_lt hgB)
  · have hmay' : mayID a b c = false := by simpa using hmay
    have hput : putID a b c = [] := by unfold putID; rw [if_neg hmay]
    rw [hmay'] at hm
    rw [hput]
    clear hmay hmay' hput
    go_enter Try.func57, Try.ntmps57
    go_wp2_with fail
    refine (hm _).mono ?_
    rintro e w1 ⟨rfl, hb1⟩
    have hb1 := below_new_then hb1
    go_wp2_with fail
    go_ret
    exact ⟨_, rfl, OB.nil _ _, hb1⟩

/-- .. and nil just where one may not be -/
theorem put_nil (a b c : Int) (h : mayID a b c = false) : putID a b c = [] := by unfold putID; rw [h]; rfl

theorem shr8 (n : Nat) : n / 256 = n / 256 ^ 1 := by rw [Nat.pow_one]
theorem be2 (n : Nat) : be 2 n = [UInt8.ofNat (n / 256), UInt8.ofNat n] := by simp [be]
theorem be4 (n : Nat) : be 4 n = [UInt8.ofNat (n / 16777216), UInt8.ofNat (n / 65536), UInt8.ofNat (n / 256), UInt8.ofNat n] := by simp [be]

set_option maxHeartbeats 2000000 in
theorem put_any (a b c : Int) (w : World) (ha : -9223372036854775808 ≤ a ∧ a ≤ 9223372036854775807) (hbb : -9223372036854775808 ≤ b ∧ b ≤ 9223372036854775807) (hc : c < 4294967296) :
    Calls Try.prog 56 #[idv a b c] w fun e w' => ∃ u, e = .returned u ∧ OB w' w.heap.size u (putID a b c) ∧ (mayID a b c = false → u = .slice none 0 0) ∧ (mayID a b c = true → ∃ g, u = .slice (some ⟨g, 0, none⟩) 7 7) ∧ Below w.heap.size w w' := by
  have hm := fun w => may_any a b c w ha hbb
  by_cases hmay : mayID a b c = true
  · rw [hmay] at hm
    have hput : putID a b c = UInt8.ofNat (a % 256).toNat :: (be 2 b.toNat ++ be 4 c.toNat) := by unfold putID; rw [if_pos hmay]
    have hbd : -1 ≤ a ∧ a < 8 ∧ 0 ≤ b ∧ b < 200 ∧ 0 ≤ c := by unfold mayID at hmay; simp only [decide_eq_true_eq] at hmay; omega
    obtain ⟨ha1, ha2, hb1, hb2, hc1⟩ := hbd
    obtain ⟨bn, rfl⟩ := Int.eq_ofNat_of_zero_le hb1
    obtain ⟨cn, rfl⟩ := Int.eq_ofNat_of_zero_le hc1
    rw [Int.toNat_natCast, Int.toNat_natCast, be2, be4] at hput
    have Hput := Lib.hid hput
    have Hmay := Lib.hid hmay
    clear hmay hput hb1 hc1
    have hcase : a = -1 ∨ (0 ≤ a) := by omega
    rcases hcase with rfl | h0
    · go_enter Try.func56, Try.ntmps56
      go_wp2_with fail
      refine (hm _).mono ?_
      rintro e w1 ⟨rfl, hb1⟩
      have hx := (Box3.new w (.int .i64 (-1)) (.int .i64 bn) (.int .u32 cn) 41).below hb1
      obtain ⟨hx0, hx1, hx2⟩ := hx
      have hb1 := below_new_then hb1
      go_wp2_with fail
      go_ret
      refine ⟨_, rfl, OB.lit' _ _ _ _ _ ?_ ?_ hb1.size ?_, fun h => (by rw [Hmay.out] at h; cases h), fun _ => ⟨_, rfl⟩, hb1.trans (below_mono (below_new _ _) hb1.size)⟩
      · rw [Hput.out]
        refine cons_u8 ?_ (cons_u8 ?_ (cons_u8 ?_ (cons_u8 ?_ (cons_u8 ?_ (cons_u8 ?_ (cons_u8 ?_ rfl)))))) <;> (rw [UInt8.toNat_ofNat']; omega)
      · rw [Hput.out]; rfl
      · rw [Hput.out]; simp
    · go_enter Try.func56, Try.ntmps56
      go_wp2_with fail
      refine (hm _).mono ?_
      rintro e w1 ⟨rfl, hb1⟩
      have hx := (Box3.new w (.int .i64 a) (.int .i64 bn) (.int .u32 cn) 41).below hb1
      obtain ⟨hx0, hx1, hx2⟩ := hx
      have hb1 := below_new_then hb1
      go_wp2_with fail
      go_ret
      refine ⟨_, rfl, OB.lit' _ _ _ _ _ ?_ ?_ hb1.size ?_, fun h => (by rw [Hmay.out] at h; cases h), fun _ => ⟨_, rfl⟩, hb1.trans (below_mono (below_new _ _) hb1.size)⟩
      · rw [Hput.out]
        refine cons_u8 ?_ (cons_u8 ?_ (cons_u8 ?_ (cons_u8 ?_ (cons_u8 ?_ (cons_u8 ?_ (cons_u8 ?_ rfl)))))) <;> (rw [UInt8.toNat_ofNat']; omega)
      · rw [Hput.out]; rfl
      · rw [Hput.out]; simp
  · have hmay' : mayID a b c = false := by simpa using hmay
    have hput : putID a b c = [] := put_nil a b c hmay'
    rw [hmay'] at hm
    rw [hput, hmay']
    clear hmay hmay' hput
    go_enter Try.func56, Try.ntmps56
    go_wp2_with fail
    refine (hm _).mono ?_
    rintro e w1 ⟨rfl, hb1⟩
    have hb1 := below_new_then hb1
    go_wp2_with fail
    go_ret
    exact ⟨_, rfl, OB.nil _ _, fun _ => rfl, fun h => (by cases h), hb1⟩
end Go.Proofs.Ytgeiafijibgdhaa.Cl
