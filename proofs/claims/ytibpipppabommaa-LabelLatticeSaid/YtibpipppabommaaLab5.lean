/- Labels: the document's answers: the walks. -/
import Derived.Test.YtibpipppabommaaLab4
set_option linter.unusedVariables false
set_option linter.unusedSimpArgs false
namespace Go.Proofs.Ytibpipppabommaa.Cl
open Go Go.Proofs Go.RowKit Fl Rely

def bitB (n i : Nat) : Bool := decide (n / 2 ^ i % 2 = 1)
theorem bit_any (n i : Nat) (w : World) (hn : n ≤ 15) (hi : i ≤ 4) : Calls Try.prog 56 #[.int .i64 n, .int .i64 i] w fun e w' => e = .returned (.bool (bitB n i)) ∧ w = w' := by
  go_enter Try.func56, Try.ntmps56
  go_wp2
  go_loop [0, 5] (fun c k => ∃ m : Nat, m ≤ i ∧ k = .int .i64 m ∧ c = .int .i64 ((n / 2 ^ m : Nat) : Int)) (fun _ k => i - (intOf k).toNat)
  case atStart => exact ⟨0, Nat.zero_le _, rfl, by simp⟩
  case round =>
    obtain ⟨m, hm, rfl, rfl⟩ := hrel
    have hle : n / 2 ^ m ≤ 15 := Nat.le_trans (Nat.div_le_self _ _) hn
    by_cases hlt : m < i
    · have hlt' : (m : Int) < (i : Int) := by omega
      have e : n / 2 ^ (m + 1) = n / 2 ^ m / 2 := by rw [Nat.pow_succ, Nat.div_div_eq_div_mul]
      have E := Lib.hid e
      clear e
      generalize n / 2 ^ m = q at *
      go_wp2
      go_round
      case rel => exact ⟨m + 1, by omega, by go_num, by rw [E.out]; exact int_val (by omega)⟩
      case measure => simp only [intOf]; omega
    · obtain rfl : m = i := by omega
      have hq : bitB n m = decide (((n / 2 ^ m : Nat) : Int) % 2 = 1) := by unfold bitB; rw [decide_eq_decide]; omega
      have Hq := Lib.hid hq
      clear hq
      generalize n / 2 ^ m = q at *
      go_wp2
      go_ret
      exact ⟨ret_bool (by rw [Hq.out, Bool.eq_iff_iff]; simp), rfl⟩

/-! ### many -/
def popK (n : Nat) : Nat → Nat
  | 0 => 0
  | k + 1 => popK n k + if bitB n k then 1 else 0
theorem popK_le (n : Nat) : ∀ k, popK n k ≤ k
  | 0 => Nat.le_refl _
  | k + 1 => by have := popK_le n k; unfold popK; split <;> omega
theorem popK4 (n : Nat) : popK n 4 = pop n := by
  simp only [popK, bitB, pop, decide_eq_true_eq, Nat.pow_zero, Nat.div_one, Nat.reducePow]
  (repeat' split) <;> omega
theorem refMany_any (n : Nat) (w : World) (hn : n ≤ 15) : Calls Try.prog 64 #[.int .i64 n] w fun e w' => e = .returned (.int .i64 (pop n)) ∧ w = w' := by
  go_enter Try.func64, Try.ntmps64
  go_wp2
  go_loop [3, 4] (fun c k => ∃ m : Nat, m ≤ 4 ∧ k = .int .i64 m ∧ c = .int .i64 ((popK n m : Nat) : Int)) (fun _ k => 4 - (intOf k).toNat)
  case atStart => exact ⟨0, Nat.zero_le _, rfl, by simp [popK]⟩
  case round =>
    obtain ⟨m, hm, rfl, rfl⟩ := hrel
    have hle := popK_le n m
    by_cases hlt : m < 4
    · have hlt' : (m : Int) < 4 := by omega
      have hb := fun w => bit_any n m w hn (by omega)
      have e : popK n (m + 1) = popK n m + if bitB n m then 1 else 0 := rfl
      have E := Lib.hid e
      clear e
      generalize popK n m = q at *
      cases hbit : bitB n m
      all_goals
        have Hb := Lib.hid hbit
        rw [hbit] at hb
        clear hbit
        go_wp2_with (go_at_call 56; refine (hb _).mono ?_; rintro e w' ⟨rfl, rfl⟩)
        go_round
        case rel => exact ⟨m + 1, by omega, by go_num, by rw [E.out, Hb.out]; first | rfl | (exact int_val (by simp))⟩
        case measure => simp only [intOf]; omega
    · obtain rfl : m = 4 := by omega
      have e := Lib.hid (popK4 n)
      have hp : pop n ≤ 4 := by rw [← e.out]; exact hle
      go_wp2
      go_ret
      exact ⟨ret_int (by rw [e.out]), rfl⟩

/-! ### both -/
def bothN (a b : Nat) (all : Bool) : Nat → Nat
  | 0 => 0
  | k + 1 => bothN a b all k + if (bitB a k && bitB b k || all && (bitB a k || bitB b k)) then 2 ^ k else 0
theorem bothN_lt (a b : Nat) (all : Bool) : ∀ k, bothN a b all k < 2 ^ k
  | 0 => Nat.one_pos
  | k + 1 => by have := bothN_lt a b all k; rw [Nat.pow_succ]; unfold bothN; split <;> omega
theorem bothN_or : ∀ a < 16, ∀ b < 16, bothN a b true 4 = a ||| b := by decide +kernel
theorem bothN_and : ∀ a < 16, ∀ b < 16, bothN a b false 4 = a &&& b := by decide +kernel
set_option maxRecDepth 100000 in
set_option maxHeartbeats 2000000 in
theorem both_any (a b : Nat) (all : Bool) (w : World) (ha : a ≤ 15) (hb : b ≤ 15) : Calls Try.prog 59 #[.int .i64 a, .int .i64 b, .bool all] w fun e w' => e = .returned (.int .i64 (bothN a b all 4 : Nat)) ∧ w = w' := by
  go_enter Try.func59, Try.ntmps59
  go_wp2
  go_loop [7, 8, 9] (fun n p i => ∃ k : Nat, k ≤ 4 ∧ i = .int .i64 k ∧ n = .int .i64 ((bothN a b all k : Nat) : Int) ∧ p = .int .i64 ((2 ^ k : Nat) : Int)) (fun _ _ i => 4 - (intOf i).toNat)
  case atStart => exact ⟨0, Nat.zero_le _, rfl, rfl, rfl⟩
  case round =>
    obtain ⟨k, hk, rfl, rfl, rfl⟩ := hrel
    have hle := bothN_lt a b all k
    have h2 : 2 ^ k ≤ 16 := Nat.le_trans (Nat.pow_le_pow_right (by decide) hk) (by decide)
    by_cases hlt : k < 4
    · have hlt' : (k : Int) < 4 := by omega
      have hba := fun w => bit_any a k w ha (by omega)
      have hbb := fun w => bit_any b k w hb (by omega)
      have E := Lib.hid (show bothN a b all (k + 1) = bothN a b all k + if (bitB a k && bitB b k || all && (bitB a k || bitB b k)) then 2 ^ k else 0 from rfl)
      have E2 := Lib.hid (Nat.pow_succ 2 k)
      clear ha hb
      generalize bothN a b all k = q at *
      generalize 2 ^ k = p at *
      generalize bitB a k = x at *
      generalize bitB b k = y at *
      cases x <;> cases y <;> cases all
      all_goals
        go_wp2_with (go_at_call 56; first | ((with_reducible refine (hba _).mono ?_); rintro e w' ⟨rfl, rfl⟩) | ((with_reducible refine (hbb _).mono ?_); rintro e w' ⟨rfl, rfl⟩))
        go_round
        case rel => exact ⟨k + 1, by omega, by go_num, by rw [E.out]; first | rfl | (exact int_val (by simp)), by rw [E2.out]; exact int_val (by omega)⟩
        case measure => simp only [intOf]; omega
    · obtain rfl : k = 4 := by omega
      go_wp2
      go_ret
      exact ⟨rfl, rfl⟩

def subB (a b : Nat) : Nat → Bool
  | 0 => true
  | k + 1 => subB a b k && !(bitB b k && !bitB a k)
theorem subB_or : ∀ a < 16, ∀ b < 16, subB a b 4 = decide (a ||| b = a) := by decide +kernel
theorem subB_mono (a b : Nat) (k : Nat) (h : subB a b k = false) : ∀ m, subB a b (k + m) = false
  | 0 => h
  | m + 1 => by show (subB a b (k + m) && _) = false; rw [subB_mono a b k h m]; rfl

set_option maxRecDepth 100000 in
set_option maxHeartbeats 2000000 in
theorem refAbove_any (a b a' b' : Nat) (w : World) (ha : a ≤ 3) (hb : b ≤ 15) (ha' : a' ≤ 3) (hb' : b' ≤ 15) :
    Calls Try.prog 39 #[lv a b, lv a' b'] w fun e w' => e = .returned (.bool (decide (a' ≤ a) && subB b b' 4)) ∧ Below w.heap.size w w' := by
  have m1 := refLabMay_any a b
  have m2 := refLabMay_any a' b'
  rw [labOK_mk (by omega) (by omega)] at m1
  rw [labOK_mk (by omega) (by omega)] at m2
  by_cases hlev : a' ≤ a
  · have hl : ((a : Int) < (a' : Int)) = False := by simp; omega
    have hl2 : decide ((a : Int) < (a' : Int)) = false := by simp; omega
    rw [decide_eq_true hlev, Bool.true_and]
    clear hlev
    go_enter Try.func39, Try.ntmps39
    go_wp2_with (refine wp_want rfl fun K hK => ?_; refine wp_rw_box (P := Try.prog) (t := 63) #[.int .i64 (a : Int), .int .i64 (b : Int)] rfl rfl ?_)
    intro w1 A1 b1 s1
    refine hK _ _ ?_
    clear hK K
    go_wp2_with (refine wp_want rfl fun K hK => ?_; refine wp_rw_box (P := Try.prog) (t := 63) #[.int .i64 (a' : Int), .int .i64 (b' : Int)] rfl rfl ?_)
    intro w2 A2 b2 s2
    refine hK _ _ ?_
    clear hK K
    have B2 := b1.trans (b2.mono b1.size)
    have A := A1.below b2 s1
    have x0 := A.at_ 0 (.int .i64 (a : Int)) rfl
    have x1 := A.at_ 1 (.int .i64 (b : Int)) rfl
    have y0 := A2.at_ 0 (.int .i64 (a' : Int)) rfl
    have y1 := A2.at_ 1 (.int .i64 (b' : Int)) rfl
    clear A1 A2 b1 b2 A
    go_upto_region 1 with fail
    refine wp_region_text 15 (by kernel_rfl) ?_
    simp only [List.take_succ_cons, List.take_zero]
    repeat (first
      | (refine wpR_step0 ?_ ?_ (fun K hK => ?_); rfl; rfl; go_simp; refine hK _ ?_; clear hK K)
      | (refine wpR_step0 ?_ ?_ (fun K hK => ?_); rfl; rfl; go_simp; apply Exists.intro; refine ⟨fun x => ?_, hK _ ?_⟩; (first | (go_at_call 37; first | (with_reducible exact m1 _) | (with_reducible exact m2 _))); clear hK K))
    refine wpR_nil fun x => ?_
    obtain ⟨w4, w4b⟩ := x
    simp only [close, List.drop_succ_cons, List.drop_zero]
    have x1 := x1 ⟨w4, w4b⟩
    have y1 := y1 ⟨w4, w4b⟩
    have hW := B2.trans (w4b.mono B2.size)
    clear x0 y0 m1 m2 hl hl2
    go_wp2_with fail
    go_loop [5] (fun i => ∃ k : Nat, k ≤ 4 ∧ i = .int .i64 k ∧ subB b b' k = true) (fun i => 4 - (intOf i).toNat)
    case atStart => exact ⟨0, Nat.zero_le _, rfl, rfl⟩
    case round =>
      obtain ⟨k, hk, rfl, hs⟩ := hrel
      by_cases hlt : k < 4
      · have hlt' : (k : Int) < 4 := by omega
        have hba := fun w => bit_any b k w hb (by omega)
        have hbb := fun w => bit_any b' k w hb' (by omega)
        have E : subB b b' (k + 1) = (subB b b' k && !(bitB b' k && !bitB b k)) := rfl
        rw [hs, Bool.true_and] at E
        have M := Lib.hid (fun h => subB_mono b b' (k + 1) h (3 - k))
        rw [show k + 1 + (3 - k) = 4 from by omega] at M
        generalize bitB b k = x at *
        generalize bitB b' k = y at *
        clear hs
        have E := Lib.hid E
        cases x <;> cases y
        all_goals
          go_wp2_with (go_at_call 56; first | ((with_reducible refine (hba _).mono ?_); rintro e w' ⟨rfl, rfl⟩) | ((with_reducible refine (hbb _).mono ?_); rintro e w' ⟨rfl, rfl⟩))
          first
            | (go_ret
               exact ⟨ret_bool (by rw [M.out E.out]), hW⟩)
            | (go_round
               case rel => exact ⟨k + 1, by omega, by go_num, E.out⟩
               case measure => simp only [intOf]; omega)
      · obtain rfl : k = 4 := by omega
        have Hs := Lib.hid hs
        clear hs
        go_wp2_with fail
        go_ret
        exact ⟨ret_bool Hs.out.symm, hW⟩
  · have hl : ((a : Int) < (a' : Int)) := by omega
    rw [decide_eq_false hlev, Bool.false_and]
    clear hlev
    go_enter Try.func39, Try.ntmps39
    go_wp2_with (refine wp_want rfl fun K hK => ?_; refine wp_rw_box (P := Try.prog) (t := 63) #[.int .i64 (a : Int), .int .i64 (b : Int)] rfl rfl ?_)
    intro w1 A1 b1 s1
    refine hK _ _ ?_
    clear hK K
    go_wp2_with (refine wp_want rfl fun K hK => ?_; refine wp_rw_box (P := Try.prog) (t := 63) #[.int .i64 (a' : Int), .int .i64 (b' : Int)] rfl rfl ?_)
    intro w2 A2 b2 s2
    refine hK _ _ ?_
    clear hK K
    have B2 := b1.trans (b2.mono b1.size)
    have A := A1.below b2 s1
    have x0 := A.at_ 0 (.int .i64 (a : Int)) rfl
    have x1 := A.at_ 1 (.int .i64 (b : Int)) rfl
    have y0 := A2.at_ 0 (.int .i64 (a' : Int)) rfl
    have y1 := A2.at_ 1 (.int .i64 (b' : Int)) rfl
    clear A1 A2 b1 b2 A
    go_upto_region 1 with fail
    refine wp_region_text 15 (by kernel_rfl) ?_
    simp only [List.take_succ_cons, List.take_zero]
    repeat (first
      | (refine wpR_step0 ?_ ?_ (fun K hK => ?_); rfl; rfl; go_simp; refine hK _ ?_; clear hK K)
      | (refine wpR_step0 ?_ ?_ (fun K hK => ?_); rfl; rfl; go_simp; apply Exists.intro; refine ⟨fun x => ?_, hK _ ?_⟩; (first | (go_at_call 37; first | (with_reducible exact m1 _) | (with_reducible exact m2 _))); clear hK K))
    refine wpR_nil fun x => ?_
    obtain ⟨w4, w4b⟩ := x
    simp only [close, List.drop_succ_cons, List.drop_zero]
    go_wp2_with fail
    go_ret
    exact ⟨rfl, B2.trans (w4b.mono B2.size)⟩
end Go.Proofs.Ytibpipppabommaa.Cl
