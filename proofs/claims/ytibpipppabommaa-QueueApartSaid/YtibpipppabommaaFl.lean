/- The floats of whole numbers: what a whole number becomes as a float64 reads back, and two of them compare as the numbers do. -/
import Derived.Laws.Cover2
import Derived.Laws.FloatArith
import Derived.Laws.Cover3
set_option linter.unusedVariables false
set_option linter.unusedSimpArgs false
namespace Go.Proofs.Ytibpipppabommaa.Fl
open Go Ieee

/-- the bits of float64(n) -/
def fl (n : Int) : Nat := FloatKind.f64.nearest n

theorem log2_lt {n k : Nat} (h0 : n ≠ 0) (h : n < 2 ^ k) : n.log2 < k := (Nat.log2_lt h0).2 h

theorem cut_zero_drop (neg : Bool) (n : Nat) : Toward.even.cut neg n 0 = n := by
  simp [Toward.cut, Nat.mod_one]

theorem infRung_d : double.infRung = 2047 * 2 ^ 52 := by decide
theorem least_d : double.leastPlace = -1074 := by decide
theorem binade_d : double.binade = 2 ^ 52 := by decide
theorem sw_d : double.signWeight = 2 ^ 63 := by decide
theorem fb_d : double.fractionBits = 52 := rfl

/-- what a word of a rung that is not of the lowest binade reads as -/
theorem read_word (neg : Bool) (r : Nat) (h1 : 2 ^ 52 ≤ r) (h2 : r < 2047 * 2 ^ 52) :
    double.read (double.word neg r) = .number neg (2 ^ 52 + r % 2 ^ 52) (-1074 + ((r / 2 ^ 52 - 1 : Nat) : Int)) := by
  unfold Format.read Format.word
  rw [infRung_d, least_d, binade_d, sw_d]
  cases neg
  · have e1 : r / 2 ^ 63 % 2 = 0 := by omega
    have e2 : r % 2 ^ 63 = r := by omega
    simp only [Bool.false_eq_true, if_false, e1, e2]
    rw [if_neg (by omega), if_pos h2]; rfl
  · have e1 : (2 ^ 63 + r) / 2 ^ 63 % 2 = 1 := by omega
    have e2 : (2 ^ 63 + r) % 2 ^ 63 = r := by omega
    simp only [if_true, e1, e2]
    rw [if_neg (by omega), if_pos h2]; rfl

theorem nearest_small (neg : Bool) (mag : Nat) (h0 : mag ≠ 0) (h : mag < 2 ^ 53) :
    double.read (double.nearest neg mag 0) = .number neg (mag * 2 ^ (52 - mag.log2)) (-((52 - mag.log2 : Nat) : Int)) := by
  have hL : mag.log2 < 53 := log2_lt h0 h
  have hlo : 2 ^ mag.log2 ≤ mag := Nat.log2_self_le h0
  have hhi : mag < 2 ^ (mag.log2 + 1) := Nat.lt_log2_self
  have e2 : double.nearest neg mag 0 = double.word neg ((mag.log2 + 1022) * 2 ^ 52 + mag * 2 ^ (52 - mag.log2)) := by
    unfold Format.nearest
    rw [if_neg h0]
    dsimp only
    rw [infRung_d, least_d, binade_d, fb_d]
    generalize mag.log2 = L at *
    have elast : max ((0 : Int) + (L : Int) - ((52 : Nat) : Int)) (-1074) = (L : Int) - 52 := by omega
    rw [elast]
    have e1 : ((0 : Int) - ((L : Int) - 52)).toNat = 52 - L := by omega
    have e2 : ((L : Int) - 52 - 0).toNat = 0 := by omega
    have e3 : ((L : Int) - 52 - -1074).toNat = L + 1022 := by omega
    rw [e1, e2, e3, cut_zero_drop, Nat.shiftLeft_eq]
    have hk : mag * 2 ^ (52 - L) < 2 ^ 53 := by
      calc mag * 2 ^ (52 - L) < 2 ^ (L + 1) * 2 ^ (52 - L) := Nat.mul_lt_mul_of_pos_right hhi (Nat.two_pow_pos _)
        _ = 2 ^ 53 := by rw [← Nat.pow_add]; congr 1; omega
    generalize mag * 2 ^ (52 - L) = K at *
    have hmin : min ((L + 1022) * 2 ^ 52 + K) (2047 * 2 ^ 52) = (L + 1022) * 2 ^ 52 + K := Nat.min_eq_left (by omega)
    rw [hmin]
  rw [e2]
  generalize mag.log2 = L at *
  have hk : mag * 2 ^ (52 - L) < 2 ^ 53 := by
    calc mag * 2 ^ (52 - L) < 2 ^ (L + 1) * 2 ^ (52 - L) := Nat.mul_lt_mul_of_pos_right hhi (Nat.two_pow_pos _)
      _ = 2 ^ 53 := by rw [← Nat.pow_add]; congr 1; omega
  have hk2 : 2 ^ 52 ≤ mag * 2 ^ (52 - L) := by
    calc 2 ^ 52 = 2 ^ L * 2 ^ (52 - L) := by rw [← Nat.pow_add]; congr 1; omega
      _ ≤ mag * 2 ^ (52 - L) := Nat.mul_le_mul_right _ hlo
  generalize mag * 2 ^ (52 - L) = K at *
  rw [read_word neg _ (by omega) (by omega)]
  congr 1
  · omega
  · omega

theorem cut_le (n drop : Nat) (neg : Bool) (h : drop ≤ n.log2 + 2) :
    n / 2 ^ drop ≤ Toward.even.cut neg n drop ∧ Toward.even.cut neg n drop ≤ n / 2 ^ drop + 1 := by
  unfold Toward.cut
  rw [Nat.min_eq_left h, Nat.one_shiftLeft]
  dsimp only
  refine ⟨Nat.le_add_right _ _, Nat.add_le_add_left ?_ _⟩
  exact Bool.toNat_le _

theorem nearest_big (neg : Bool) (mag : Nat) (h1 : 2 ^ 53 ≤ mag) (h2 : mag < 2 ^ 64) :
    ∃ m : Nat, ∃ i : Nat, double.read (double.nearest neg mag 0) = .number neg m (i : Int) ∧ 2 ^ 53 ≤ m * 2 ^ i := by
  have h0 : mag ≠ 0 := by intro e; subst e; simp at h1
  have hL : mag.log2 < 64 := log2_lt h0 h2
  have hlo : 2 ^ mag.log2 ≤ mag := Nat.log2_self_le h0
  have hhi : mag < 2 ^ (mag.log2 + 1) := Nat.lt_log2_self
  have hL2 : 53 ≤ mag.log2 := (Nat.le_log2 h0).2 h1
  have hc := cut_le mag (mag.log2 - 52) neg (by omega)
  have e2 : double.nearest neg mag 0 = double.word neg (min ((mag.log2 + 1022) * 2 ^ 52 + Toward.even.cut neg mag (mag.log2 - 52)) (2047 * 2 ^ 52)) := by
    unfold Format.nearest
    rw [if_neg h0]
    dsimp only
    rw [infRung_d, least_d, binade_d, fb_d]
    generalize mag.log2 = L at *
    have elast : max ((0 : Int) + (L : Int) - ((52 : Nat) : Int)) (-1074) = (L : Int) - 52 := by omega
    rw [elast]
    have e1 : ((0 : Int) - ((L : Int) - 52)).toNat = 0 := by omega
    have e2 : ((L : Int) - 52 - 0).toNat = L - 52 := by omega
    have e3 : ((L : Int) - 52 - -1074).toNat = L + 1022 := by omega
    rw [e1, e2, e3, Nat.shiftLeft_zero]
  rw [e2]
  have hk2 : 2 ^ 52 ≤ mag / 2 ^ (mag.log2 - 52) := by
    rw [Nat.le_div_iff_mul_le (Nat.two_pow_pos _), ← Nat.pow_add]
    have : 52 + (mag.log2 - 52) = mag.log2 := by omega
    rw [this]; exact hlo
  have hk3 : mag / 2 ^ (mag.log2 - 52) < 2 ^ 53 := by
    rw [Nat.div_lt_iff_lt_mul (Nat.two_pow_pos _), ← Nat.pow_add]
    have : 53 + (mag.log2 - 52) = mag.log2 + 1 := by omega
    rw [this]; exact hhi
  generalize mag.log2 = L at *
  generalize Toward.even.cut neg mag (L - 52) = K at *
  generalize mag / 2 ^ (L - 52) = Q at *
  have hmin : min ((L + 1022) * 2 ^ 52 + K) (2047 * 2 ^ 52) = (L + 1022) * 2 ^ 52 + K := Nat.min_eq_left (by omega)
  rw [hmin, read_word neg _ (by omega) (by omega)]
  by_cases hK : K = 2 ^ 53
  · refine ⟨2 ^ 52, L - 51, ?_, ?_⟩
    · congr 1
      · omega
      · omega
    · rw [← Nat.pow_add]; exact Nat.pow_le_pow_right (by omega) (by omega)
  · refine ⟨K, L - 52, ?_, ?_⟩
    · congr 1
      · omega
      · omega
    · calc 2 ^ 53 = 2 ^ 52 * 2 ^ 1 := by decide
        _ ≤ K * 2 ^ (L - 52) := Nat.mul_le_mul (by omega) (Nat.pow_le_pow_right (by omega) (by omega))

theorem decode_fl (n : Int) : FloatKind.f64.decode (fl n) = double.read (double.nearest (n < 0) n.natAbs 0) := rfl

theorem fl_zero : FloatKind.f64.decode (fl 0) = .number false 0 (-1074) := by decide

/-- a small whole number as a float -/
theorem decode_small (n : Int) (h : n.natAbs < 2 ^ 53) : ∃ i : Nat, FloatKind.f64.decode (fl n) = .number (decide (n < 0)) (n.natAbs * 2 ^ i) (-(i : Int)) := by
  by_cases h0 : n = 0
  · subst h0; obtain ⟨i, hi⟩ : ∃ i : Nat, i = 1074 := ⟨_, rfl⟩; exact ⟨i, by rw [fl_zero]; rw [show (0 : Int).natAbs = 0 from rfl, Nat.zero_mul, hi]; rfl⟩
  · exact ⟨_, by rw [decode_fl, nearest_small _ _ (by omega) h]⟩

theorem signed_val (n : Int) (up : Nat) (k : Nat) : signed (decide (n < 0)) (n.natAbs * k) up = n * (k * 2 ^ up : Nat) := by
  unfold signed
  rw [Nat.shiftLeft_eq, Nat.mul_assoc]
  by_cases h : n < 0
  · rw [if_pos (by simpa using h)]
    have : ((n.natAbs : Nat) : Int) = -n := by omega
    rw [Int.natCast_mul, this, Int.neg_mul, Int.neg_neg]
  · rw [if_neg (by simpa using h)]
    have : ((n.natAbs : Nat) : Int) = n := by omega
    rw [Int.natCast_mul, this]

theorem toInt_fl (n : Int) (h : n.natAbs < 2 ^ 53) : (FloatKind.f64.decode (fl n)).toInt .zero = some n := by
  obtain ⟨i, e⟩ := decode_small n h
  rw [e]
  unfold Datum.toInt Datum.integral
  dsimp only
  have e1 : (-(i : Int)).toNat = 0 := by omega
  have e2 : (- -(i : Int)).toNat = i := by omega
  rw [e1, e2, Nat.shiftLeft_zero]
  have ec : Toward.zero.cut (decide (n < 0)) (n.natAbs * 2 ^ i) i = n.natAbs := by
    unfold Toward.cut
    dsimp only
    rw [Nat.one_shiftLeft]
    by_cases h0 : n.natAbs = 0
    · rw [h0]; simp
    · have : min i ((n.natAbs * 2 ^ i).log2 + 2) = i := by
        apply Nat.min_eq_left
        have hne : n.natAbs * 2 ^ i ≠ 0 := Nat.mul_ne_zero h0 (Nat.ne_of_gt (Nat.two_pow_pos _))
        have : i ≤ (n.natAbs * 2 ^ i).log2 := (Nat.le_log2 hne).2 (Nat.le_mul_of_pos_left _ (by omega))
        omega
      rw [this, Nat.mul_div_cancel _ (Nat.two_pow_pos _)]; simp
  rw [ec]
  have := signed_val n 0 1
  rw [Nat.mul_one] at this
  rw [this]; simp

theorem floatToIntVal_fl (n : Int) (h : n.natAbs < 2 ^ 53) (k : IntKind) (h1 : k.min ≤ n) (h2 : n ≤ k.max) : floatToIntVal .f64 (fl n) k = some n := by
  unfold floatToIntVal
  rw [toInt_fl n h]
  dsimp only
  rw [if_pos ⟨h1, h2⟩]

theorem compare_mul (a b c : Int) (h : 0 < c) : compare (a * c) (b * c) = compare a b := by
  simp only [compare, compareOfLessAndEq]
  by_cases h1 : a < b
  · rw [if_pos h1, if_pos (Int.mul_lt_mul_of_pos_right h1 h)]
  · have : ¬ a * c < b * c := fun h2 => h1 (Int.lt_of_mul_lt_mul_right h2 (by omega))
    rw [if_neg h1, if_neg this]
    by_cases h3 : a = b
    · rw [if_pos h3, h3]; simp
    · rw [if_neg h3, if_neg (fun h4 => h3 (Int.eq_of_mul_eq_mul_right (by omega) h4))]

theorem order_small (a b : Int) (ha : a.natAbs < 2 ^ 53) (hb : b.natAbs < 2 ^ 53) :
    FloatKind.f64.format.order (fl a) (fl b) = some (compare a b) := by
  obtain ⟨i, e⟩ := decode_small a ha
  obtain ⟨j, e'⟩ := decode_small b hb
  show (FloatKind.f64.decode (fl a)).order (FloatKind.f64.decode (fl b)) = _
  rw [e, e']
  unfold Datum.order
  dsimp only
  rw [signed_val, signed_val]
  congr 1
  have h1 : i + (-(i : Int) - min (-(i : Int)) (-(j : Int))).toNat = max i j := by omega
  have h2 : j + (-(j : Int) - min (-(i : Int)) (-(j : Int))).toNat = max i j := by omega
  rw [← Nat.pow_add, ← Nat.pow_add, h1, h2]
  refine compare_mul _ _ _ ?_
  exact_mod_cast Nat.two_pow_pos _

theorem compare_lt {a b : Int} (h : a < b) : compare a b = .lt := by
  simp only [compare, compareOfLessAndEq]; rw [if_pos h]
theorem compare_gt {a b : Int} (h : b < a) : compare a b = .gt := by
  simp only [compare, compareOfLessAndEq]; rw [if_neg (by omega), if_neg (by omega)]

theorem compare_same {a b : Int} (h : a = b) : compare a b = .eq := by
  subst h; simp [compare, compareOfLessAndEq]

theorem order_any (a b : Int) (ha : a.natAbs < 2 ^ 64) (hb : b.natAbs < 2 ^ 53) :
    FloatKind.f64.format.order (fl a) (fl b) = some (compare a b) := by
  by_cases hs : a.natAbs < 2 ^ 53
  · exact order_small a b hs hb
  · obtain ⟨m, i, e, hm⟩ := nearest_big (decide (a < 0)) a.natAbs (by omega) ha
    obtain ⟨j, e'⟩ := decode_small b hb
    show (FloatKind.f64.decode (fl a)).order (FloatKind.f64.decode (fl b)) = _
    rw [decode_fl, e, e']
    unfold Datum.order
    dsimp only
    rw [signed_val]
    congr 1
    have h1 : min ((i : Nat) : Int) (-(j : Int)) = -(j : Int) := by omega
    have h2 : ((i : Int) - -(j : Int)).toNat = i + j := by omega
    have h3 : (-(j : Int) - -(j : Int)).toNat = 0 := by omega
    rw [h1, h2, h3, Nat.pow_zero, Nat.mul_one]
    unfold signed
    rw [Nat.shiftLeft_eq, Nat.pow_add, ← Nat.mul_assoc]
    have hp : 0 < 2 ^ j := Nat.two_pow_pos j
    generalize m * 2 ^ i = M at *
    generalize 2 ^ j = J at *
    have hbJ : b.natAbs * J < 2 ^ 53 * J := Nat.mul_lt_mul_of_pos_right hb hp
    have hMJ : 2 ^ 53 * J ≤ M * J := Nat.mul_le_mul_right _ hm
    have hbn : (b * (J : Int)).natAbs = b.natAbs * J := by rw [Int.natAbs_mul]; rfl
    by_cases hn : a < 0
    · rw [if_pos (by simpa using hn), compare_lt (by omega), compare_lt (by omega)]
    · rw [if_neg (by simpa using hn), compare_gt (by omega), compare_gt (by omega)]

theorem lss_fl (a b : Int) (ha : a.natAbs < 2 ^ 64) (hb : b.natAbs < 2 ^ 53) : (FloatKind.f64.format.order (fl a) (fl b) == some .lt) = decide (a < b) := by
  rw [order_any a b ha hb]
  rcases Int.lt_trichotomy a b with h | h | h
  · rw [compare_lt h]; simp [h]
  · subst h; simp
  · rw [compare_gt h]; simp; omega
theorem geq_fl (a b : Int) (ha : a.natAbs < 2 ^ 64) (hb : b.natAbs < 2 ^ 53) : (FloatKind.f64.format.order (fl a) (fl b) == some .gt || FloatKind.f64.format.order (fl a) (fl b) == some .eq) = decide (b ≤ a) := by
  rw [order_any a b ha hb]
  rcases Int.lt_trichotomy a b with h | h | h
  · rw [compare_lt h]; simp; omega
  · subst h; simp
  · rw [compare_gt h]; simp; omega
end Go.Proofs.Ytibpipppabommaa.Fl
