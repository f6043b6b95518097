/- Bits of whole numbers: bytes put together. -/
import Derived.WalkKit
set_option linter.unusedVariables false
set_option linter.unusedSimpArgs false
namespace Go.Proofs.Ytgeiafijibgdhaa.Cl
open Go Go.RowKit

theorem ofInt_nat (n a : Nat) (ha : a < 2 ^ n) : (BitVec.ofInt n (a : Int)).toNat = a := by
  rw [BitVec.ofInt_natCast, BitVec.toNat_ofNat]; exact Nat.mod_eq_of_lt ha
theorem i64_or_nat (a b : Nat) (ha : a < 9223372036854775808) (hb : b < 9223372036854775808) : bits .or .i64 (a : Int) (b : Int) = ((a ||| b : Nat) : Int) := by
  have hx : a ||| b < 2 ^ 63 := Nat.or_lt_two_pow (by omega) (by omega)
  show IntKind.i64.wrap ((BitVec.ofInt 64 (a : Int) ||| BitVec.ofInt 64 (b : Int)).toNat : Int) = _
  rw [BitVec.toNat_or, ofInt_nat 64 a (by omega), ofInt_nat 64 b (by omega), IntKind.wrap_i64]
  omega
theorem i64_and_nat (a b : Nat) (ha : a < 9223372036854775808) (hb : b < 9223372036854775808) : bits .and .i64 (a : Int) (b : Int) = ((a &&& b : Nat) : Int) := by
  have hx : a &&& b < 2 ^ 63 := Nat.and_lt_two_pow _ (by omega)
  show IntKind.i64.wrap ((BitVec.ofInt 64 (a : Int) &&& BitVec.ofInt 64 (b : Int)).toNat : Int) = _
  rw [BitVec.toNat_and, ofInt_nat 64 a (by omega), ofInt_nat 64 b (by omega), IntKind.wrap_i64]
  omega
theorem u32_or_nat (a b : Nat) (ha : a < 4294967296) (hb : b < 4294967296) : bits .or .u32 (a : Int) (b : Int) = ((a ||| b : Nat) : Int) := by
  have hx : a ||| b < 2 ^ 32 := Nat.or_lt_two_pow (by omega) (by omega)
  show IntKind.u32.wrap ((BitVec.ofInt 32 (a : Int) ||| BitVec.ofInt 32 (b : Int)).toNat : Int) = _
  rw [BitVec.toNat_or, ofInt_nat 32 a (by omega), ofInt_nat 32 b (by omega), IntKind.wrap_u32]
  omega
theorem or_add (a b k : Nat) (hb : b < 2 ^ k) : a * 2 ^ k ||| b = a * 2 ^ k + b := by
  rw [← Nat.shiftLeft_eq, ← Nat.shiftLeft_add_eq_or_of_lt hb]
theorem i64_or_add (a b k p : Nat) (hp : p = 2 ^ k) (hb : b < p) (ha : a * p < 9223372036854775808) (hk : b < 9223372036854775808) : bits .or .i64 ((a * p : Nat) : Int) (b : Int) = ((a * p + b : Nat) : Int) := by
  subst hp
  rw [i64_or_nat _ _ ha hk, or_add _ _ _ hb]
theorem u32_or_add (a b k p : Nat) (hp : p = 2 ^ k) (hb : b < p) (ha : a * p < 4294967296) (hk : b < 4294967296) : bits .or .u32 ((a * p : Nat) : Int) (b : Int) = ((a * p + b : Nat) : Int) := by
  subst hp
  rw [u32_or_nat _ _ ha hk, or_add _ _ _ hb]

/-- two bytes as a whole number, by '<<' and '|' -/
theorem i64_two (x y : UInt8) : bits .or .i64 (IntKind.i64.wrap (IntKind.i64.wrap (x.toNat : Int) * 256)) (IntKind.i64.wrap (y.toNat : Int)) = ((x.toNat * 256 + y.toNat : Nat) : Int) := by
  have hx := x.toNat_lt
  have hy := y.toNat_lt
  have e1 : IntKind.i64.wrap (IntKind.i64.wrap (x.toNat : Int) * 256) = ((x.toNat * 256 : Nat) : Int) := by rw [IntWalk.i64_in (x.toNat : Int) (by omega), IntWalk.i64_in _ (by omega)]; omega
  rw [e1, IntWalk.i64_in (y.toNat : Int) (by omega), i64_or_add x.toNat y.toNat 8 256 rfl (by omega) (by omega) (by omega)]
/-- four bytes as a whole number of 32 bits, by '<<' and '|' -/
theorem four_aid (a b c d : Nat) : a * 16777216 + b * 65536 = (a * 256 + b) * 65536 ∧ (a * 256 + b) * 65536 + c * 256 = (a * 65536 + b * 256 + c) * 256 ∧ (a * 65536 + b * 256 + c) * 256 + d = a * 16777216 + b * 65536 + c * 256 + d := by omega
theorem u32_four (x y z t : UInt8) : bits .or .u32 (bits .or .u32 (bits .or .u32 (IntKind.u32.wrap (IntKind.u32.wrap (x.toNat : Int) * 16777216)) (IntKind.u32.wrap (IntKind.u32.wrap (y.toNat : Int) * 65536))) (IntKind.u32.wrap (IntKind.u32.wrap (z.toNat : Int) * 256))) (IntKind.u32.wrap (t.toNat : Int))
    = ((x.toNat * 16777216 + y.toNat * 65536 + z.toNat * 256 + t.toNat : Nat) : Int) := by
  have hx := x.toNat_lt
  have hy := y.toNat_lt
  have hz := z.toNat_lt
  have ht := t.toNat_lt
  generalize x.toNat = a at *
  generalize y.toNat = b at *
  generalize z.toNat = c at *
  generalize t.toNat = d at *
  have e1 : IntKind.u32.wrap (IntKind.u32.wrap (a : Int) * 16777216) = ((a * 16777216 : Nat) : Int) := by rw [IntWalk.u32_in (a : Int) (by omega), IntWalk.u32_in _ (by omega)]; omega
  have e2 : IntKind.u32.wrap (IntKind.u32.wrap (b : Int) * 65536) = ((b * 65536 : Nat) : Int) := by rw [IntWalk.u32_in (b : Int) (by omega), IntWalk.u32_in _ (by omega)]; omega
  have e3 : IntKind.u32.wrap (IntKind.u32.wrap (c : Int) * 256) = ((c * 256 : Nat) : Int) := by rw [IntWalk.u32_in (c : Int) (by omega), IntWalk.u32_in _ (by omega)]; omega
  obtain ⟨e4, e5, e6⟩ := four_aid a b c d
  have o1 := u32_or_add a (b * 65536) 24 16777216 rfl (by omega) (by omega) (by omega)
  have o2 := u32_or_add (a * 256 + b) (c * 256) 16 65536 rfl (by omega) (by omega) (by omega)
  have o3 := u32_or_add (a * 65536 + b * 256 + c) d 8 256 rfl (by omega) (by omega) (by omega)
  rw [e1, e2, e3, IntWalk.u32_in (d : Int) (by omega), o1, e4, o2, e5, o3, e6]
end Go.Proofs.Ytgeiafijibgdhaa.Cl
