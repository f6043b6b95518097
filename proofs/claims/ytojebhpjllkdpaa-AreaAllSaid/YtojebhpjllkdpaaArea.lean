/- The walks of package area. -/
import Derived.Test.YtojebhpjllkdpaaSum
import Derived.Test.YtojebhpjllkdpaaRely
import Derived.Test.YtojebhpjllkdpaaNum
import Derived.Deep.RegionHeld3
import Derived.Handy
set_option linter.unusedVariables false
set_option linter.unusedSimpArgs false
namespace Go.Proofs.Ytojebhpjllkdpaa.Cl
open Go Go.Proofs Go.RowKit Fl Rely

/-- a share -/
abbrev shareV (v c b l f : Int) : Value := .agg #[.int .i64 v, .int .i64 c, .int .i64 b, .int .i64 l, .int .i64 f]
/-- the i-th block of a row of n from a on -/
def rowAt (a n i : Int) : Int := if i < 0 ∨ n ≤ i then -1 else a + i

theorem row_any (a n : Int) (w : World) : Calls Try.prog 51 #[.int .i64 a, .int .i64 n] w fun e w' => e = .returned (.complex .f64 (fl a) (fl n)) ∧ w = w' := by
  go_enter Try.func51, Try.ntmps51
  go_wp2
  go_returns
  exact ⟨rfl, rfl⟩

theorem of_any (a n i : Int) (w : World) (ha : a.natAbs < 2 ^ 52) (hn : n.natAbs < 2 ^ 52) :
    Calls Try.prog 52 #[.complex .f64 (fl a) (fl n), .int .i64 i] w fun e w' => e = .returned (.int .i64 (rowAt a n i)) ∧ w = w' := by
  have e1 := conv_fi Try.prog 71 3 .i64 a (by kernel_rfl) Try.underlying3 (by omega) (by rw [min64]; omega) (by rw [max64]; omega)
  have e2 := conv_fi Try.prog 71 3 .i64 n (by kernel_rfl) Try.underlying3 (by omega) (by rw [min64]; omega) (by rw [max64]; omega)
  unfold rowAt
  by_cases h1 : i < 0
  · rw [if_pos (.inl h1)]
    go_enter Try.func52, Try.ntmps52
    go_wp2
    go_ret
    exact ⟨rfl, rfl⟩
  · by_cases h2 : n ≤ i
    · rw [if_pos (.inr h2)]
      go_enter Try.func52, Try.ntmps52
      go_wp2
      go_ret
      exact ⟨rfl, rfl⟩
    · rw [if_neg (by omega)]
      have e3 : wrap64 (a + i) = a + i := IntWalk.wrap64_in _ (by omega)
      go_enter Try.func52, Try.ntmps52
      go_wp2
      go_ret
      exact ⟨rfl, rfl⟩

theorem size_any (v c b l f : Int) (w : World) (hb : b.natAbs < 2 ^ 50) (hl : l.natAbs < 2 ^ 50) :
    Calls Try.prog 33 #[shareV v c b l f] w fun e w' => e = .returned (.int .i64 (2 + l + b)) ∧ Below w.heap.size w w' := by
  have e1 : wrap64 (2 + l) = 2 + l := IntWalk.wrap64_in _ (by omega)
  have e2 : wrap64 (2 + l + b) = 2 + l + b := IntWalk.wrap64_in _ (by omega)
  go_enter Try.func33, Try.ntmps33
  go_wp2
  go_returns
  exact ⟨rfl, by go_grown⟩

theorem log_any (v c b l f i : Int) (w : World) (hl : l.natAbs < 2 ^ 50) :
    Calls Try.prog 34 #[shareV v c b l f, .int .i64 i] w fun e w' => e = .returned (.int .i64 (rowAt 2 l i)) ∧ Below w.heap.size w w' := by
  go_enter Try.func34, Try.ntmps34
  go_wp2_with fail
  refine (row_any _ _ _).mono ?_
  rintro e w1 ⟨rfl, rfl⟩
  go_wp2_with fail
  refine (of_any _ _ _ _ (by omega) (by omega)).mono ?_
  rintro e w1 ⟨rfl, rfl⟩
  go_wp2_with fail
  go_returns
  exact ⟨rfl, by go_grown⟩

theorem home_any (v c b l f i : Int) (w : World) (hb : b.natAbs < 2 ^ 50) (hl : l.natAbs < 2 ^ 50) :
    Calls Try.prog 35 #[shareV v c b l f, .int .i64 i] w fun e w' => e = .returned (.int .i64 (rowAt (2 + l) b i)) ∧ Below w.heap.size w w' := by
  have e1 : wrap64 (2 + l) = 2 + l := IntWalk.wrap64_in _ (by omega)
  go_enter Try.func35, Try.ntmps35
  go_wp2_with fail
  refine (row_any _ _ _).mono ?_
  rintro e w1 ⟨rfl, rfl⟩
  go_wp2_with fail
  refine (of_any _ _ _ _ (by omega) (by omega)).mono ?_
  rintro e w1 ⟨rfl, rfl⟩
  go_wp2_with fail
  go_returns
  exact ⟨rfl, by go_grown⟩

theorem anchor_any (n : Nat) (w : World) (hn : n < 4294967296) :
    Calls Try.prog 36 #[.int .u32 n] w fun e w' => e = .returned (.int .i64 ((n % 2 : Nat) : Int)) ∧ w = w' := by
  go_enter Try.func36, Try.ntmps36
  go_wp2
  go_ret
  exact ⟨ret_int (by omega), rfl⟩
end Go.Proofs.Ytojebhpjllkdpaa.Cl
