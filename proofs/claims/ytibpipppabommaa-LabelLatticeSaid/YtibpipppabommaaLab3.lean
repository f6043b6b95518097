/- Labels: who is above whom, the order, bytes: the walks. -/
import Derived.Test.YtibpipppabommaaLab2
import Derived.Test.YtibpipppabommaaLabP
set_option linter.unusedVariables false
set_option linter.unusedSimpArgs false
namespace Go.Proofs.Ytibpipppabommaa.Cl
open Go Go.Proofs Go.RowKit Fl Rely

theorem lab_nat {l c : Int} (h : labOK l c = true) : ∃ a b : Nat, l = (a : Int) ∧ c = (b : Int) ∧ a ≤ 3 ∧ b ≤ 15 := by
  have := labOK_yes h
  exact ⟨l.toNat, c.toNat, by omega, by omega, by omega, by omega⟩
theorem join_any (l c l' c' : Int) (w : World) : Calls Try.prog 40 #[lv l c, lv l' c'] w fun e w' => e = .returned (lv (jL l c l' c') (jC l c l' c')) ∧ Below w.heap.size w w' := by
  cases hok : labOK l c && labOK l' c'
  · rw [show jL l c l' c' = 0 by unfold jL; rw [hok]; rfl, show jC l c l' c' = 0 by unfold jC; rw [hok]; rfl]
    exact join_no _ _ _ _ _ hok
  · rw [show jL l c l' c' = max l l' by unfold jL; rw [hok]; rfl, show jC l c l' c' = ((c.toNat ||| c'.toNat : Nat) : Int) by unfold jC; rw [hok]; rfl]
    rw [Bool.and_eq_true] at hok
    obtain ⟨a, b, rfl, rfl, h1, h2⟩ := lab_nat hok.1
    obtain ⟨a', b', rfl, rfl, h3, h4⟩ := lab_nat hok.2
    exact join_yes a b a' b' w h1 h2 h3 h4
theorem meet_any (l c l' c' : Int) (w : World) : Calls Try.prog 42 #[lv l c, lv l' c'] w fun e w' => e = .returned (lv (mL l c l' c') (mC l c l' c')) ∧ Below w.heap.size w w' := by
  cases hok : labOK l c && labOK l' c'
  · rw [show mL l c l' c' = 0 by unfold mL; rw [hok]; rfl, show mC l c l' c' = 0 by unfold mC; rw [hok]; rfl]
    exact meet_no _ _ _ _ _ hok
  · rw [show mL l c l' c' = min l l' by unfold mL; rw [hok]; rfl, show mC l c l' c' = ((c.toNat &&& c'.toNat : Nat) : Int) by unfold mC; rw [hok]; rfl]
    rw [Bool.and_eq_true] at hok
    obtain ⟨a, b, rfl, rfl, h1, h2⟩ := lab_nat hok.1
    obtain ⟨a', b', rfl, rfl, h3, h4⟩ := lab_nat hok.2
    exact meet_yes a b a' b' w h1 h2 h3 h4

def aboveB (l c l' c' : Int) : Bool := labOK l c && labOK l' c' && decide (jL l c l' c' = l ∧ jC l c l' c' = c)

set_option maxRecDepth 100000 in
set_option maxHeartbeats 1000000 in
theorem above_any (l c l' c' : Int) (w : World) : Calls Try.prog 38 #[lv l c, lv l' c'] w fun e w' => e = .returned (.bool (aboveB l c l' c')) ∧ Below w.heap.size w w' := by
  have m1 := labMay_any l c
  have m2 := labMay_any l' c'
  have hj := join_any l c l' c'
  have he := eq_lv (jL l c l' c') (jC l c l' c') l c
  unfold aboveB
  generalize jL l c l' c' = J at *
  generalize jC l c l' c' = J' at *
  generalize decide (J = l ∧ J' = c) = r at *
  cases h1 : labOK l c <;> cases h2 : labOK l' c' <;> cases r
  all_goals
    simp only [Bool.and_false, Bool.false_and, Bool.and_true, Bool.true_and]
    rw [h1] at m1
    rw [h2] at m2
    clear h1 h2
    go_enter Try.func38, Try.ntmps38
    go_wp2_with (refine wp_want rfl fun K hK => ?_; refine wp_rw_box (P := Try.prog) (t := 63) #[.int .i64 l, .int .i64 c] rfl rfl ?_)
    intro w1 A1 b1 s1
    refine hK _ _ ?_
    clear hK K
    go_wp2_with (refine wp_want rfl fun K hK => ?_; refine wp_rw_box (P := Try.prog) (t := 63) #[.int .i64 l', .int .i64 c'] rfl rfl ?_)
    intro w2 A2 b2 s2
    refine hK _ _ ?_
    clear hK K
    have B2 := b1.trans (b2.mono b1.size)
    have A := (A1.below b2 s1).drew
    have B := A2.drew
    have hW := B2.drew
    have x0 := A.at_ 0 (.int .i64 l) rfl
    have x1 := A.at_ 1 (.int .i64 c) rfl
    have y0 := B.at_ 0 (.int .i64 l') rfl
    have y1 := B.at_ 1 (.int .i64 c') rfl
    clear A1 A2 b1 b2 B2 A B
    go_wp2_with fail
    refine wp_region_rely 14 (by kernel_rfl) (by kernel_rfl) ?_
    simp only [List.take_succ_cons, List.take_zero]
    generalize World.drew w2 = w3 at *
    repeat (first
      | (refine wpR_step0 ?_ ?_ (fun K hK => ?_); rfl; rfl; go_simp; refine hK _ ?_; clear hK K)
      | (refine wpR_step0 ?_ ?_ (fun K hK => ?_); rfl; rfl; go_simp; apply Exists.intro; refine ⟨fun x => ?_, hK _ ?_⟩; (first | (go_at_call 36; first | (with_reducible exact m1 _) | (with_reducible exact m2 _)) | (go_at_call 40; (with_reducible exact hj _))); clear hK K))
    refine wpR_nil fun x => ?_
    obtain ⟨w4, w4b⟩ := x
    simp only [close, List.drop_succ_cons, List.drop_zero]
    go_wp2_with fail
    go_ret
    exact ⟨rfl, hW.trans (w4b.mono hW.size)⟩

/-! ### how many categories -/
theorem ones64_any (n : Nat) (hn : n ≤ 15) (w : World) : Calls Try.prog 67 #[.int .u64 n] w fun e w' => e = .returned (.int .i64 (pop n)) ∧ w = w' := by
  have h : n = 0 ∨ n = 1 ∨ n = 2 ∨ n = 3 ∨ n = 4 ∨ n = 5 ∨ n = 6 ∨ n = 7 ∨ n = 8 ∨ n = 9 ∨ n = 10 ∨ n = 11 ∨ n = 12 ∨ n = 13 ∨ n = 14 ∨ n = 15 := by omega
  clear hn
  rcases h with rfl | rfl | rfl | rfl | rfl | rfl | rfl | rfl | rfl | rfl | rfl | rfl | rfl | rfl | rfl | rfl
  all_goals
    go_enter Try.func67, Try.ntmps67
    go_wp2
    go_ret
    exact ⟨ret_int (by decide +kernel), rfl⟩
theorem ones_any (n : Nat) (hn : n ≤ 15) (w : World) : Calls Try.prog 61 #[.int .u64 n] w fun e w' => e = .returned (.int .i64 (pop n)) ∧ w = w' := by
  have h := ones64_any n hn
  go_enter Try.func61, Try.ntmps61
  go_wp2_with (go_at_call 67; refine (h _).mono ?_; rintro e w' ⟨rfl, rfl⟩)
  go_ret
  exact ⟨rfl, rfl⟩
theorem many_any (l : Int) (n : Nat) (hn : n ≤ 15) (w : World) : Calls Try.prog 60 #[lv l n] w fun e w' => e = .returned (.int .i64 (pop n)) ∧ Below w.heap.size w w' := by
  have h := ones_any n hn
  go_enter Try.func60, Try.ntmps60
  go_wp2_with (go_at_call 61; refine (h _).mono ?_; rintro e w' ⟨rfl, rfl⟩)
  go_ret
  exact ⟨rfl, below_new _ _⟩
theorem isNaN_any (x : Int) (w : World) : Calls Try.prog 68 #[.int .i64 x] w fun e w' => e = .returned (.bool false) ∧ w = w' := by
  go_enter Try.func68, Try.ntmps68
  go_wp2
  go_ret
  exact ⟨by simp, rfl⟩
def cmpI (x y : Int) : Int := if x < y then -1 else if y < x then 1 else 0
theorem compare_any (x y : Int) (w : World) : Calls Try.prog 63 #[.int .i64 x, .int .i64 y] w fun e w' => e = .returned (.int .i64 (cmpI x y)) ∧ w = w' := by
  go_enter Try.func63, Try.ntmps63
  go_wp2_with (go_at_call 68; refine (isNaN_any _ _).mono ?_; rintro e w' ⟨rfl, rfl⟩)
  all_goals (go_ret; refine ⟨?_, rfl⟩; unfold cmpI; (repeat' split) <;> first | rfl | (exfalso; omega))
/-- the first that is not 0 -/
def orI : List Int → Int
  | [] => 0
  | x :: l => if x = 0 then orI l else x
theorem orI_drop (l : List Int) (k : Nat) (h : k < l.length) : orI (l.drop k) = if l[k] = 0 then orI (l.drop (k + 1)) else l[k] := by
  rw [List.drop_eq_getElem_cons h]; rfl
theorem or_any (v : Value) (l : List Int) (w : World) (hv : Rd w v (l.map (Value.int .i64))) : Calls Try.prog 62 #[v] w fun e w' => e = .returned (.int .i64 (orI l)) ∧ w = w' := by
  obtain ⟨a, cap, rfl, hc1, hc2, hcell, _⟩ := hv
  rw [List.length_map] at *
  go_enter Try.func62, Try.ntmps62
  go_wp2
  go_loop [5, 8] (fun _ i => ∃ k : Nat, k ≤ l.length ∧ i = .int .i64 k ∧ orI l = orI (l.drop k)) (fun _ i => l.length - (intOf i).toNat)
  case atStart => exact ⟨0, Nat.zero_le _, rfl, rfl⟩
  case round =>
    obtain ⟨k, hk, rfl, ho⟩ := hrel
    by_cases hlt : k < l.length
    · obtain ⟨ad, rfl, hcx⟩ := hcell k (by rw [List.length_map]; exact hlt)
      clear hcell
      rw [List.getElem_map] at hcx
      have hd := orI_drop l k hlt
      generalize l[k] = x at *
      have Ho := Lib.hid ho
      have Hd := Lib.hid hd
      clear ho hd
      by_cases hx : x = 0
      · subst hx
        go_wp2
        go_round
        case rel => exact ⟨k + 1, by omega, by go_num, by rw [Ho.out, Hd.out, if_pos rfl]⟩
        case measure => simp only [intOf]; omega
      · have hx' : (x != 0) = true := by simpa using hx
        have Hx := Lib.hid hx
        clear hx
        go_wp2
        go_ret
        exact ⟨ret_int (by rw [Ho.out, Hd.out, if_neg Hx.out]), rfl⟩
    · obtain rfl : k = l.length := by omega
      rw [List.drop_length] at ho
      have Ho := Lib.hid ho
      clear ho
      go_wp2
      go_ret
      exact ⟨ret_int (by rw [Ho.out]; rfl), rfl⟩
end Go.Proofs.Ytibpipppabommaa.Cl
