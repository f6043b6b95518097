/- Plain words on bytes and sums: no program. -/
set_option linter.unusedVariables false
set_option linter.unusedSimpArgs false
namespace Go.Proofs.Ytibpipppabommaa.Cl

/-- the state of the sum behind a byte -/
def sumOn (p : Nat × Nat) (b : UInt8) : Nat × Nat := ((p.1 + b.toNat) % 65521, (p.2 + (p.1 + b.toNat) % 65521) % 65521)
def sumSt (l : List UInt8) : Nat × Nat := l.foldl sumOn (1, 0)
def sumN (l : List UInt8) : Nat := (sumSt l).2 * 65536 + (sumSt l).1

theorem sumOn_lt (p : Nat × Nat) (b : UInt8) : (sumOn p b).1 < 65521 ∧ (sumOn p b).2 < 65521 := by
  unfold sumOn; exact ⟨Nat.mod_lt _ (by decide), Nat.mod_lt _ (by decide)⟩
theorem foldl_sum_lt : ∀ (l : List UInt8) (p : Nat × Nat), p.1 < 65521 ∧ p.2 < 65521 → (l.foldl sumOn p).1 < 65521 ∧ (l.foldl sumOn p).2 < 65521
  | [], _, h => h
  | b :: l, p, _ => foldl_sum_lt l (sumOn p b) (sumOn_lt p b)
theorem sumSt_lt (l : List UInt8) : (sumSt l).1 < 65521 ∧ (sumSt l).2 < 65521 := foldl_sum_lt l _ (by decide)
theorem sumSt_snoc (l : List UInt8) (b : UInt8) : sumSt (l ++ [b]) = sumOn (sumSt l) b := by simp [sumSt]
theorem sumN_lt (l : List UInt8) : sumN l < 4294967296 := by
  have := sumSt_lt l
  unfold sumN; omega
theorem sumN_inj {l l' : List UInt8} : sumN l = sumN l' ↔ sumSt l = sumSt l' := by
  have h := sumSt_lt l
  have h' := sumSt_lt l'
  unfold sumN
  constructor
  · intro e; exact Prod.ext (by omega) (by omega)
  · intro e; rw [e]

/-! ### numbers as bytes, the highest first -/
def be : Nat → Nat → List UInt8
  | 0, _ => []
  | k + 1, n => UInt8.ofNat (n / 256 ^ k) :: be k n
theorem be_length : ∀ k n, (be k n).length = k
  | 0, _ => rfl
  | k + 1, n => by simp [be, be_length k n]
theorem be_get : ∀ k n j (h : j < (be k n).length), (be k n)[j] = UInt8.ofNat (n / 256 ^ (k - 1 - j))
  | 0, _, j, h => by simp [be] at h
  | k + 1, n, 0, _ => by simp [be]
  | k + 1, n, j + 1, h => by
    simp only [be, List.getElem_cons_succ]
    rw [be_get k n j (by simpa [be] using h)]
    congr 3; omega
theorem be_get? (k n j : Nat) (h : j < k) : (be k n)[j]? = some (UInt8.ofNat (n / 256 ^ (k - 1 - j))) := by
  rw [List.getElem?_eq_getElem (by rw [be_length]; exact h), be_get]
/-- the number of bytes -/
def num (l : List UInt8) : Nat := l.foldl (fun n b => n * 256 + b.toNat) 0
theorem num_snoc (l : List UInt8) (b : UInt8) : num (l ++ [b]) = num l * 256 + b.toNat := by simp [num]
theorem foldl_num_lt : ∀ (l : List UInt8) (n : Nat), l.foldl (fun n b => n * 256 + b.toNat) n < (n + 1) * 256 ^ l.length
  | [], n => by simp
  | b :: l, n => by
    have h := foldl_num_lt l (n * 256 + b.toNat)
    have hb := b.toNat_lt
    rw [List.foldl_cons, List.length_cons, Nat.pow_succ, Nat.mul_comm (256 ^ l.length) 256, ← Nat.mul_assoc]
    exact Nat.lt_of_lt_of_le h (Nat.mul_le_mul_right _ (by omega))
theorem num_lt (l : List UInt8) : num l < 256 ^ l.length := by
  have := foldl_num_lt l 0
  simpa [num] using this

/-! ### a byte that is turned, two that are swapped -/
theorem fold_fst_ne : ∀ (l : List UInt8) (p q : Nat × Nat), p.1 < 65521 → q.1 < 65521 → p.1 ≠ q.1 → (l.foldl sumOn p).1 ≠ (l.foldl sumOn q).1
  | [], _, _, _, _, h => h
  | b :: l, p, q, hp, hq, h => by
    refine fold_fst_ne l _ _ (sumOn_lt _ _).1 (sumOn_lt _ _).1 ?_
    unfold sumOn; dsimp only
    omega
theorem fold_snd_ne : ∀ (l : List UInt8) (p q : Nat × Nat), p.2 < 65521 → q.2 < 65521 → p.1 = q.1 → p.2 ≠ q.2 → (l.foldl sumOn p).2 ≠ (l.foldl sumOn q).2
  | [], _, _, _, _, _, h => h
  | b :: l, p, q, hp, hq, e, h => by
    refine fold_snd_ne l _ _ (sumOn_lt _ _).2 (sumOn_lt _ _).2 ?_ ?_
    · unfold sumOn; dsimp only; rw [e]
    · unfold sumOn; dsimp only; rw [e]; omega
theorem sum_turned (l1 l2 : List UInt8) (x y : UInt8) (h : x ≠ y) : sumN (l1 ++ x :: l2) ≠ sumN (l1 ++ y :: l2) := by
  intro e
  rw [sumN_inj] at e
  have hx := x.toNat_lt
  have hy := y.toNat_lt
  have hne : x.toNat ≠ y.toNat := fun e => h (UInt8.toNat_inj.1 e)
  have hl := sumSt_lt l1
  refine fold_fst_ne l2 (sumOn (sumSt l1) x) (sumOn (sumSt l1) y) (sumOn_lt _ _).1 (sumOn_lt _ _).1 ?_ ?_
  · unfold sumOn; dsimp only; omega
  · have := congrArg Prod.fst e
    simpa [sumSt, List.foldl_append] using this
theorem sum_swapped (l1 l2 : List UInt8) (x y : UInt8) (h : x ≠ y) : sumN (l1 ++ x :: y :: l2) ≠ sumN (l1 ++ y :: x :: l2) := by
  intro e
  rw [sumN_inj] at e
  have hx := x.toNat_lt
  have hy := y.toNat_lt
  have hne : x.toNat ≠ y.toNat := fun e => h (UInt8.toNat_inj.1 e)
  have hl := sumSt_lt l1
  refine fold_snd_ne l2 (sumOn (sumOn (sumSt l1) x) y) (sumOn (sumOn (sumSt l1) y) x) (sumOn_lt _ _).2 (sumOn_lt _ _).2 ?_ ?_ ?_
  · unfold sumOn; dsimp only; omega
  · unfold sumOn; dsimp only; omega
  · have := congrArg Prod.snd e
    simpa [sumSt, List.foldl_append] using this

theorem bb_ne {a b c d : Nat} (h1 : a ≠ b) (h2 : c ≠ d) : (((a : Int) == (b : Int)) == ((c : Int) == (d : Int))) = true := by
  have e1 : ((a : Int) == (b : Int)) = false := beq_eq_false_iff_ne.2 (by omega)
  have e2 : ((c : Int) == (d : Int)) = false := beq_eq_false_iff_ne.2 (by omega)
  rw [e1, e2]; rfl
theorem turned_eq (l : List UInt8) (k : Nat) (hk : k < l.length) (to : UInt8) : ((((sumN (l.set k to) : Nat) : Int) == ((sumN l : Nat) : Int)) == (((to.toNat : Nat) : Int) == ((l[k].toNat : Nat) : Int))) = true := by
  have e : l = l.take k ++ l[k] :: l.drop (k + 1) := by rw [List.getElem_cons_drop, List.take_append_drop]
  by_cases h : to = l[k]
  · subst h
    rw [List.set_getElem_self]; simp
  · have h1 : sumN (l.set k to) ≠ sumN l := by
      rw [List.set_eq_take_append_cons_drop, if_pos hk]
      conv => rhs; rw [e]
      exact sum_turned _ _ _ _ h
    have h2 : to.toNat ≠ l[k].toNat := fun e => h (UInt8.toNat_inj.1 e)
    exact bb_ne h1 h2
theorem swapped_eq (l : List UInt8) (k : Nat) (hk : k + 1 < l.length) : ((((sumN ((l.set k l[k + 1]).set (k + 1) l[k]) : Nat) : Int) == ((sumN l : Nat) : Int)) == (((l[k].toNat : Nat) : Int) == ((l[k + 1].toNat : Nat) : Int))) = true := by
  have e : l = l.take k ++ l[k] :: l[k + 1] :: l.drop (k + 2) := by rw [List.getElem_cons_drop, List.getElem_cons_drop, List.take_append_drop]
  have e' : (l.set k l[k + 1]).set (k + 1) l[k] = l.take k ++ l[k + 1] :: l[k] :: l.drop (k + 2) := by
    apply List.ext_getElem?
    intro j
    rcases Nat.lt_trichotomy j k with h | h | h
    · rw [List.getElem?_set_ne (by omega), List.getElem?_set_ne (by omega), List.getElem?_append_left (by simp; omega)]
      simp [h]
    · subst h
      rw [List.getElem?_set_ne (by omega), List.getElem?_set_self (by omega), List.getElem?_append_right (by simp; omega)]
      simp [Nat.min_eq_left (show j ≤ l.length by omega)]
    · by_cases h2 : j = k + 1
      · subst h2
        rw [List.getElem?_set_self (by simp; omega), List.getElem?_append_right (by simp; omega)]
        simp [Nat.min_eq_left (show k ≤ l.length by omega)]
      · rw [List.getElem?_set_ne (by omega), List.getElem?_set_ne (by omega), List.getElem?_append_right (by simp; omega)]
        obtain ⟨m, rfl⟩ : ∃ m, j = k + 2 + m := ⟨j - (k + 2), by omega⟩
        have : k + 2 + m - k = m + 1 + 1 := by omega
        simp [Nat.min_eq_left (show k ≤ l.length by omega), this]
  by_cases h : l[k] = l[k + 1]
  · have : (l.set k l[k + 1]).set (k + 1) l[k] = l := by
      rw [← h, List.set_getElem_self]
      conv => lhs; rw [h]
      rw [List.set_getElem_self]
    rw [this, h]; simp
  · have h1 : sumN ((l.set k l[k + 1]).set (k + 1) l[k]) ≠ sumN l := by
      rw [e']
      conv => rhs; rw [e]
      exact sum_swapped _ _ _ _ (fun e => h e.symm)
    have h2 : l[k].toNat ≠ l[k + 1].toNat := fun e => h (UInt8.toNat_inj.1 e)
    exact bb_ne h1 h2

/-! ### the tail that is handed out behind bytes -/
def tl (i : Nat) : UInt8 := UInt8.ofNat (60 + i % 7)
def tail7 (n : Nat) : List UInt8 := (List.range 7).map fun i => tl (n + i)
theorem tail7_length (n : Nat) : (tail7 n).length = 7 := by simp [tail7]
theorem tl_toNat (i : Nat) : (tl i).toNat = 60 + i % 7 := by
  unfold tl
  rw [UInt8.toNat_ofNat']
  omega
end Go.Proofs.Ytibpipppabommaa.Cl
