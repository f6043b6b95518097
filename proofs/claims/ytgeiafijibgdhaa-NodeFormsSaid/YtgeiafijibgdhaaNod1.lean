/- node: which texts may be a signpost's. -/
import Derived.Test.YtgeiafijibgdhaaEnt2
set_option linter.unusedVariables false
set_option linter.unusedSimpArgs false
namespace Go.Proofs.Ytgeiafijibgdhaa.Cl
open Go Go.Proofs Go.RowKit Fl Rely

/-- a byte that a signpost's text may have -/
def sb (b : UInt8) : Bool := decide (33 ≤ b.toNat) && decide (b.toNat ≤ 126)
def signT (l : List UInt8) : Bool := decide (1 ≤ l.length) && decide (l.length ≤ 32) && l.all sb
def qs (r : Int) : Bool := decide (r < 33) || decide (126 < r)
theorem qs_sb (b : UInt8) : qs b.toNat = !sb b := by
  unfold qs sb
  rw [Bool.eq_iff_iff]
  simp only [Bool.or_eq_true, decide_eq_true_eq, Bool.not_eq_true', Bool.and_eq_false_iff, decide_eq_false_iff_not]
  omega
theorem sought_sign : Sought 72 qs := by
  refine ⟨fun args w => ?_, fun r w h1 h2 => ?_, fun r h => ?_⟩
  · simp [callFunc, go_sem, Try.func72]
    rfl
  · go_enter Try.func72, Try.ntmps72
    have hq : qs r = (decide (r < 33) || decide (126 < r)) := rfl
    have hq' := Lib.hid hq
    clear hq
    by_cases a1 : r < 33
    · go_wp2_with fail
      go_ret
      exact ⟨ret_bool (by rw [hq'.out]; simp [a1]), rfl⟩
    · go_wp2_with fail
      go_ret
      exact ⟨ret_bool (by rw [hq'.out]; simp only [show ¬ r < 33 by omega, decide_false, Bool.false_or]), rfl⟩
  · unfold qs
    simp only [Bool.or_eq_true, decide_eq_true_eq]
    omega
theorem sign_any (l : List UInt8) (w : World) (hl : l.length ≤ 1000000) :
    Calls Try.prog 52 #[str l] w fun e w' => e = .returned (.bool (signT l)) ∧ Below w.heap.size w w' := by
  have hc := fun w => containsFunc_any _ _ sought_sign l w hl
  have ha : (l.any fun b => qs b.toNat) = !l.all sb := by
    rw [show (fun b : UInt8 => qs b.toNat) = fun b => !sb b from funext qs_sb, List.not_all_eq_any_not]
  rw [ha] at hc
  unfold signT
  clear ha
  generalize l.all sb = good at *
  by_cases e3 : 1 ≤ l.length
  · rw [decide_eq_true e3, Bool.true_and]
    by_cases e4 : l.length ≤ 32
    · rw [decide_eq_true e4, Bool.true_and]
      have i3 : (1 : Int) ≤ (l.length : Int) := by omega
      have i4 : (l.length : Int) ≤ 32 := by omega
      go_enter Try.func52, Try.ntmps52
      go_wp2_with fail
      refine (hc w).mono ?_
      rintro e w' ⟨rfl, hb⟩
      go_wp2_with fail
      go_ret
      first | exact ⟨rfl, hb⟩ | exact ⟨ret_bool (by simp), hb⟩
    · rw [decide_eq_false e4, Bool.false_and]
      have i3 : (1 : Int) ≤ (l.length : Int) := by omega
      have i4 : ¬ (l.length : Int) ≤ 32 := by omega
      go_enter Try.func52, Try.ntmps52
      go_wp2_with fail
      go_ret
      exact ⟨rfl, Below.refl _ _⟩
  · rw [decide_eq_false e3, Bool.false_and, Bool.false_and]
    have i3 : ¬ (1 : Int) ≤ (l.length : Int) := by omega
    go_enter Try.func52, Try.ntmps52
    go_wp2_with fail
    go_ret
    exact ⟨rfl, Below.refl _ _⟩
set_option maxRecDepth 100000 in
theorem mayTarget_any (l : List UInt8) (w : World) (hl : l.length ≤ 1000000) :
    Calls Try.prog 54 #[str l] w fun e w' => e = .returned (.bool (signT l)) ∧ w = w' := by
  go_enter Try.func54, Try.ntmps54
  go_wp2_with fail
  go_loop [3] (fun i => ∃ k : Nat, k ≤ l.length ∧ i = .int .i64 (k : Int) ∧ (l.take k).all sb = true) (fun i => l.length - (intOf i).toNat)
  case atStart => exact ⟨0, Nat.zero_le _, rfl, by simp⟩
  case round =>
    obtain ⟨k, hk, rfl, hg⟩ := hrel
    by_cases hlt : k < l.length
    · have hlI : (k : Int) < (l.length : Int) := by omega
      have hts := take_snoc l k hlt
      have hmem : l[k] ∈ l := List.getElem_mem hlt
      have hbad : sb l[k] = false → signT l = false := fun h => by
        unfold signT
        have : l.all sb = false := Bool.eq_false_iff.2 fun h' => by
          rw [List.all_eq_true.1 h' _ hmem] at h
          cases h
        rw [this, Bool.and_false]
      have hb := l[k].toNat_lt
      obtain ⟨b, hbl⟩ : ∃ b, b = l[k] := ⟨_, rfl⟩
      rw [← hbl] at hts hmem hbad hb
      have hix : ∀ h, (ByteArray.mk l.toArray)[k]'h = b := fun h => (str_at l k hlt h).trans hbl.symm
      have hgb : sb b = (decide (33 ≤ b.toNat) && decide (b.toNat ≤ 126)) := rfl
      clear hbl
      have Hg := Lib.hid hg
      have Hts := Lib.hid hts
      have Hgb := Lib.hid hgb
      clear hg hts hgb
      by_cases a1 : b.toNat < 33
      · have i1 : (b.toNat : Int) < 33 := by omega
        have hno := Lib.hid (hbad (by rw [Hgb.out]; simp; omega))
        clear hbad
        go_wp2_with fail
        go_ret
        exact ⟨ret_bool hno.out.symm, rfl⟩
      · by_cases a2 : 126 < b.toNat
        · have i1 : ¬ (b.toNat : Int) < 33 := by omega
          have i2 : (126 : Int) < (b.toNat : Int) := by omega
          have hno := Lib.hid (hbad (by rw [Hgb.out]; simp; omega))
          clear hbad
          go_wp2_with fail
          go_ret
          exact ⟨ret_bool hno.out.symm, rfl⟩
        · have i1 : ¬ (b.toNat : Int) < 33 := by omega
          have i2 : ¬ (126 : Int) < (b.toNat : Int) := by omega
          clear hbad
          go_wp2_with fail
          go_round
          case rel =>
            refine ⟨k + 1, by omega, by go_num, ?_⟩
            rw [Hts.out, List.all_append, Hg.out, List.all_cons, List.all_nil, Hgb.out]
            simp
            omega
          case measure => simp only [intOf]; omega
    · have hlI : ¬ (k : Int) < (l.length : Int) := by omega
      rw [List.take_of_length_le (by omega)] at hg
      have hmn : signT l = (decide (1 ≤ l.length) && decide (l.length ≤ 32)) := by unfold signT; rw [hg, Bool.and_true]
      have Hmn := Lib.hid hmn
      clear hmn hg
      by_cases e3 : 1 ≤ l.length
      · have i3 : (1 : Int) ≤ (l.length : Int) := by omega
        by_cases e4 : l.length ≤ 32
        · have i4 : (l.length : Int) ≤ 32 := by omega
          have hno := Lib.hid (show signT l = true by rw [Hmn.out]; simp [e4]; omega)
          go_wp2_with fail
          go_ret
          exact ⟨ret_bool hno.out.symm, rfl⟩
        · have i4 : ¬ (l.length : Int) ≤ 32 := by omega
          have hno := Lib.hid (show signT l = false by rw [Hmn.out]; simp [e4])
          go_wp2_with fail
          go_ret
          exact ⟨ret_bool hno.out.symm, rfl⟩
      · have i3 : ¬ (1 : Int) ≤ (l.length : Int) := by omega
        have hno := Lib.hid (show signT l = false by rw [Hmn.out]; simp [e3])
        go_wp2_with fail
        go_ret
        exact ⟨ret_bool hno.out.symm, rfl⟩
end Go.Proofs.Ytgeiafijibgdhaa.Cl
