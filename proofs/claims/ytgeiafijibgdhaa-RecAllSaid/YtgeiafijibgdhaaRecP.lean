/- rec: the plain laws. -/
import Derived.Test.YtgeiafijibgdhaaRec4
set_option linter.unusedVariables false
set_option linter.unusedSimpArgs false
namespace Go.Proofs.Ytgeiafijibgdhaa.Cl
open Go Go.Proofs Go.RowKit Fl Rely

theorem foldl_be : ∀ k n a, (be k n).foldl (fun n b => n * 256 + b.toNat) a = a * 256 ^ k + n % 256 ^ k
  | 0, n, a => by simp [be, Nat.mod_one]
  | k + 1, n, a => by
    simp only [be, List.foldl_cons]
    have h8 : (UInt8.ofNat (n / 256 ^ k)).toNat = n / 256 ^ k % 256 := UInt8.toNat_ofNat'
    rw [foldl_be k n, h8, show (256 : Nat) ^ (k + 1) = 256 ^ k * 256 from rfl, Nat.mod_mul, Nat.add_mul, Nat.mul_assoc, Nat.mul_comm 256, Nat.mul_comm (256 ^ k) (n / 256 ^ k % 256)]
    omega
theorem num_be {k n : Nat} (h : n < 256 ^ k) : num (be k n) = n := by
  unfold num
  rw [foldl_be, Nat.mod_eq_of_lt h]; omega
theorem be_inj {k n m : Nat} (hn : n < 256 ^ k) (hm : m < 256 ^ k) (h : be k n = be k m) : n = m := by rw [← num_be hn, h, num_be hm]

theorem sum_set_ne (l : List UInt8) (k : Nat) (hk : k < l.length) (to : UInt8) (h : to ≠ l[k]) : sumN (l.set k to) ≠ sumN l := by
  have e : l = l.take k ++ l[k] :: l.drop (k + 1) := by rw [List.getElem_cons_drop, List.take_append_drop]
  rw [List.set_eq_take_append_cons_drop, if_pos hk]
  conv => rhs; rw [e]
  exact sum_turned _ _ _ _ h
def sealedT (t : List UInt8) : Prop := t.length = 64 ∧ t.drop 60 = be 4 (sumN (t.take 60))
theorem filled_take {l : List UInt8} (h : l.length ≤ 60) : (filledB l).take 60 = l ++ List.replicate (60 - l.length) 0 := by
  unfold filledB sealedB
  rw [List.take_left' (by rw [List.length_append, List.length_replicate]; omega)]
theorem sealed_filled {l : List UInt8} (h : l.length ≤ 60) : sealedT (filledB l) := by
  refine ⟨filledB_length h, ?_⟩
  rw [filled_take h]
  unfold filledB sealedB
  rw [List.drop_left' (by rw [List.length_append, List.length_replicate]; omega)]
theorem sealed_turn {t : List UInt8} (h : sealedT t) (i : Nat) (hi : i < t.length) (x : UInt8) (hx : x ≠ t[i]) : ¬ sealedT (t.set i x) := by
  rintro ⟨_, k⟩
  obtain ⟨h1, h2⟩ := h
  by_cases h60 : i < 60
  · rw [List.drop_set_of_lt h60, h2, List.take_set] at k
    have hl : i < (t.take 60).length := by rw [List.length_take]; omega
    refine sum_set_ne (t.take 60) i hl x (by rw [List.getElem_take]; exact hx) ?_
    exact (be_inj (sumN_lt _) (sumN_lt _) k).symm
  · rw [List.take_set_of_le (by omega), ← h2, List.drop_set, if_neg h60] at k
    have hd : i - 60 < (t.drop 60).length := by rw [List.length_drop]; omega
    have e : ((t.drop 60).set (i - 60) x)[i - 60]'(by rw [List.length_set]; exact hd) = (t.drop 60)[i - 60] := by simp only [k]
    rw [List.getElem_set_self, List.getElem_drop] at e
    simp only [show 60 + (i - 60) = i by omega] at e
    exact hx e

/-! ### anchors -/
theorem filled_at {l : List UInt8} (h : l.length ≤ 60) (i : Nat) (hi : i < l.length) : (filledB l)[i]? = l[i]? := by
  unfold filledB sealedB
  rw [List.getElem?_append_left (by rw [List.length_append]; omega), List.getElem?_append_left hi]
theorem filled_mid {l : List UInt8} (h : l.length ≤ 60) (i n : Nat) (hi : i + n ≤ l.length) : ((filledB l).drop i).take n = (l.drop i).take n := by
  apply List.ext_getElem?
  intro j
  rw [List.getElem?_take, List.getElem?_take]
  split
  · rw [List.getElem?_drop, List.getElem?_drop, filled_at h _ (by omega)]
  · rfl
theorem anchor_num (label : UInt8) {e : Nat} (he : e < 4294967296) : num (((anchorB label e).drop 3).take 4) = e := by
  unfold anchorB
  rw [filled_mid (by simp [be_length]) 3 4 (by simp [be_length]), List.drop_left' (by rfl), List.take_of_length_le (by rw [be_length]; exact Nat.le_refl _), num_be he]
theorem anchor_label (label : UInt8) (e : Nat) : (anchorB label e)[2]? = some label := by
  unfold anchorB
  rw [filled_at (by simp [be_length]) 2 (by simp [be_length])]
  rfl
theorem anchor_sealed (label : UInt8) (e : Nat) : sealedT (anchorB label e) := sealed_filled (by simp [be_length])
theorem takeAnc_own (label : UInt8) {e : Nat} (he : e < 4294967296) (h : e ≠ 4294967295) : takeAnc label (anchorB label e) = some e := by
  unfold takeAnc
  rw [anchor_num label he, if_pos ⟨anchorB_length _ _, h, rfl⟩]
theorem takeAnc_end (label oth : UInt8) : takeAnc oth (anchorB label 4294967295) = none := takeAnc_last (anchor_num label (by decide))
theorem takeAnc_as {label oth : UInt8} {e : Nat} (he : e < 4294967296) (h : oth ≠ label) : takeAnc oth (anchorB label e) = none := takeAnc_other fun k => by
  rw [anchor_num label he] at k
  have := anchor_label oth e
  rw [k, anchor_label label e] at this
  exact h (Option.some.inj this).symm
theorem takeAnc_turn {label oth : UInt8} {e i : Nat} (hi : i < (anchorB label e).length) (x : UInt8) (hx : x ≠ (anchorB label e)[i]) : takeAnc oth ((anchorB label e).set i x) = none := takeAnc_other fun k => by
  have := anchor_sealed oth (num ((((anchorB label e).set i x).drop 3).take 4))
  rw [k] at this
  exact sealed_turn (anchor_sealed label e) i hi x hx this
end Go.Proofs.Ytgeiafijibgdhaa.Cl
