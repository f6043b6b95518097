/- strings.ContainsFunc; entry: which names may be. -/
import Derived.Test.YtgeiafijibgdhaaBlk2
import Derived.Laws.RangeAny
import Derived.Laws.RangeString
import Derived.Lib.Hide
set_option linter.unusedVariables false
set_option linter.unusedSimpArgs false
namespace Go.Proofs.Ytgeiafijibgdhaa.Cl
open Go Go.Proofs Go.RowKit Fl

abbrev str (l : List UInt8) : Value := .string ⟨l.toArray⟩
theorem str_size (l : List UInt8) : (ByteArray.mk l.toArray).size = l.length := by simp [ByteArray.size]
theorem str_at (l : List UInt8) (k : Nat) (h : k < l.length) (h' : k < (ByteArray.mk l.toArray).size) : (ByteArray.mk l.toArray)[k]'h' = l[k] := by
  show (ByteArray.mk l.toArray).data[k] = l[k]
  simp
/-- f tells of a rune whether it is sought; of all that is no ASCII it says so -/
structure Sought (f : FuncId) (q : Int → Bool) : Prop where
  enter : ∀ args w, (callFunc f args).run Try.prog w = .ok (.enter f args) w
  call : ∀ (r : Int) (w : World), 0 ≤ r → r ≤ 2147483647 → Calls Try.prog f #[.int .i32 r] w fun e w' => e = .returned (.bool (q r)) ∧ w = w'
  high : ∀ r, 128 ≤ r → q r = true
abbrev fv (f : FuncId) : Value := .func (.func f) #[] #[]
set_option maxRecDepth 100000 in
theorem indexFunc_any (f : FuncId) (q : Int → Bool) (hf : Sought f q) (l : List UInt8) (w : World) (hl : l.length ≤ 1000000) :
    Calls Try.prog 81 #[str l, fv f, .bool true] w fun e w' => ∃ r : Int, e = .returned (.int .i64 r) ∧ (0 ≤ r ↔ l.any (fun b => q b.toNat) = true) ∧ Below w.heap.size w w' := by
  have hcall := hf.call
  have hent := hf.enter
  go_enter Try.func81, Try.ntmps81
  go_wp2_with fail
  go_loopw [7, 8] (fun _ _ w' => ∃ pos : Nat, pos ≤ l.length ∧ w' = w.iter ⟨l.toArray⟩ pos ∧ ∀ b ∈ l.take pos, q b.toNat = false) (fun _ _ w' => l.length - w'.iterPos w.heap.size)
  case atStart => exact ⟨0, Nat.zero_le _, rfl, by simp⟩
  case round =>
    obtain ⟨pos, hpos, rfl, hgood⟩ := hrel
    by_cases hp : pos < l.length
    · have hp' : pos < (ByteArray.mk l.toArray).size := by rw [str_size]; exact hp
      have hb := l[pos].toNat_lt
      have hat := str_at l pos hp hp'
      have hts := take_snoc l pos hp
      have hge : l[pos] ∈ l := List.getElem_mem hp
      generalize l[pos] = b at *
      by_cases h128 : b.toNat < 128
      · have hnx : ∀ ty, (Instr.next (.pointer (some ⟨w.heap.size, 0, none⟩)) true ty).run Try.prog (w.iter ⟨l.toArray⟩ pos) = .ok (.tuple #[.bool true, .int .i64 pos, .int .i32 (b.toNat : Nat)]) (w.iter ⟨l.toArray⟩ (pos + 1)) := fun ty => by
          have := run_next_ascii (P := Try.prog) w ⟨l.toArray⟩ pos ty hp' (by rw [hat]; exact h128)
          rw [hat] at this
          exact this
        have hgood := Lib.hid hgood
        have hts := Lib.hid hts
        clear hat
        go_wp2_with fail
        refine (hcall (b.toNat : Nat) _ (by omega) (by omega)).mono ?_
        rintro e wq ⟨rfl, rfl⟩
        cases hq : q (b.toNat : Nat)
        · go_wp2_with fail
          go_roundw
          case rel =>
            refine ⟨pos + 1, hp, rfl, fun c hc => ?_⟩
            rw [hts.out] at hc
            rcases List.mem_append.1 hc with h | h
            · exact hgood.out c h
            · rw [List.mem_singleton.1 h]; exact hq
          case measure => simp; omega
        · go_wp2_with fail
          go_ret
          refine ⟨_, rfl, ⟨fun _ => List.any_eq_true.2 ⟨b, hge, hq⟩, fun _ => by omega⟩, below_new _ _⟩
      · have hd := decode_high ⟨l.toArray⟩ pos hp' (by rw [hat]; omega)
        have hle := decode_le ⟨l.toArray⟩ pos
        have hnx : ∀ ty, (Instr.next (.pointer (some ⟨w.heap.size, 0, none⟩)) true ty).run Try.prog (w.iter ⟨l.toArray⟩ pos) = _ := fun ty => run_next_any w ⟨l.toArray⟩ pos ty hp'
        generalize Utf8.decode ⟨l.toArray⟩ pos = d at *
        obtain ⟨d1, d2⟩ := d
        dsimp only at hd hle hnx
        have hq := hf.high (d1 : Nat) (by omega)
        have hgood := Lib.hid hgood
        have hts := Lib.hid hts
        clear hat
        go_wp2_with fail
        refine (hcall (d1 : Nat) _ (by omega) (by omega)).mono ?_
        rintro e wq ⟨rfl, rfl⟩
        rw [hq]
        go_wp2_with fail
        go_ret
        refine ⟨_, rfl, ⟨fun _ => List.any_eq_true.2 ⟨b, hge, hf.high _ (by omega)⟩, fun _ => by omega⟩, below_new _ _⟩
    · have hp' : ¬ pos < (ByteArray.mk l.toArray).size := by rw [str_size]; exact hp
      have hnx : ∀ ty, (Instr.next (.pointer (some ⟨w.heap.size, 0, none⟩)) true ty).run Try.prog (w.iter ⟨l.toArray⟩ pos) = _ := fun ty => run_next_end w ⟨l.toArray⟩ pos ty hp'
      rw [List.take_of_length_le (by omega)] at hgood
      have hgood := Lib.hid hgood
      go_wp2_with fail
      go_ret
      refine ⟨_, rfl, ⟨fun h => by omega, fun h => ?_⟩, below_new _ _⟩
      obtain ⟨b, hb, hqb⟩ := List.any_eq_true.1 h
      rw [hgood.out b hb] at hqb
      cases hqb
theorem containsFunc_any (f : FuncId) (q : Int → Bool) (hf : Sought f q) (l : List UInt8) (w : World) (hl : l.length ≤ 1000000) :
    Calls Try.prog 60 #[str l, fv f] w fun e w' => e = .returned (.bool (l.any fun b => q b.toNat)) ∧ Below w.heap.size w w' := by
  have h1 : ∀ w, Calls Try.prog 74 #[str l, fv f] w fun e w' => ∃ r : Int, e = .returned (.int .i64 r) ∧ (0 ≤ r ↔ l.any (fun b => q b.toNat) = true) ∧ Below w.heap.size w w' := fun w => by
    go_enter Try.func74, Try.ntmps74
    go_wp2_with fail
    refine (indexFunc_any f q hf l w hl).mono ?_
    rintro e w' ⟨r, rfl, hr, hb⟩
    go_wp2_with fail
    go_ret
    exact ⟨r, rfl, hr, hb⟩
  go_enter Try.func60, Try.ntmps60
  go_wp2_with fail
  refine (h1 w).mono ?_
  rintro e w' ⟨r, rfl, hr, hb⟩
  have hr' : decide (0 ≤ r) = l.any (fun b => q b.toNat) := by rw [Bool.eq_iff_iff, decide_eq_true_iff]; exact hr
  clear hr
  have hr := Lib.hid hr'
  clear hr'
  go_wp2_with fail
  go_ret
  exact ⟨ret_bool hr.out, hb⟩

/-- a byte that a name may have -/
def gb (b : UInt8) : Bool := decide (33 ≤ b.toNat) && decide (b.toNat ≤ 126) && decide (b.toNat ≠ 47)
def mayName (l : List UInt8) : Bool := decide (l ≠ [46]) && decide (l ≠ [46, 46]) && decide (1 ≤ l.length) && decide (l.length ≤ 14) && l.all gb
def qn (r : Int) : Bool := decide (r < 33) || decide (126 < r) || decide (r = 47)
theorem qn_gb (b : UInt8) : qn b.toNat = !gb b := by
  unfold qn gb
  rw [Bool.eq_iff_iff]
  simp only [Bool.or_eq_true, decide_eq_true_eq, Bool.not_eq_true', Bool.and_eq_false_iff, decide_eq_false_iff_not]
  omega
theorem sought_name : Sought 61 qn := by
  refine ⟨fun args w => ?_, fun r w h1 h2 => ?_, fun r h => ?_⟩
  · simp [callFunc, go_sem, Try.func61]
    rfl
  · go_enter Try.func61, Try.ntmps61
    have hq : qn r = (decide (r < 33) || decide (126 < r) || (r == 47)) := by
      unfold qn
      rw [Bool.eq_iff_iff]
      simp
    have hq' := Lib.hid hq
    clear hq
    by_cases a1 : r < 33
    · go_wp2_with fail
      go_ret
      exact ⟨ret_bool (by rw [hq'.out]; simp [a1]), rfl⟩
    · by_cases a2 : 126 < r
      · go_wp2_with fail
        go_ret
        exact ⟨ret_bool (by rw [hq'.out]; simp [a1, a2]), rfl⟩
      · go_wp2_with fail
        go_ret
        exact ⟨ret_bool (by rw [hq'.out]; simp only [show ¬ r < 33 by omega, show ¬ 126 < r by omega, decide_false, Bool.false_or]), rfl⟩
  · unfold qn
    simp only [Bool.or_eq_true, decide_eq_true_eq]
    omega
theorem mayName_any (l : List UInt8) (w : World) (hl : l.length ≤ 1000000) :
    Calls Try.prog 27 #[str l] w fun e w' => e = .returned (.bool (mayName l)) ∧ Below w.heap.size w w' := by
  have hc := fun w => containsFunc_any _ _ sought_name l w hl
  have ha : (l.any fun b => qn b.toNat) = !l.all gb := by
    rw [show (fun b : UInt8 => qn b.toNat) = fun b => !gb b from funext qn_gb, List.not_all_eq_any_not]
  rw [ha] at hc
  unfold mayName
  clear ha
  generalize l.all gb = good at *
  by_cases e1 : l = [46]
  · subst e1
    go_enter Try.func27, Try.ntmps27
    go_wp2_with fail
    go_ret
    exact ⟨rfl, Below.refl _ _⟩
  · by_cases e2 : l = [46, 46]
    · subst e2
      go_enter Try.func27, Try.ntmps27
      go_wp2_with fail
      go_ret
      exact ⟨rfl, Below.refl _ _⟩
    · rw [decide_eq_true (p := l ≠ [46]) e1, decide_eq_true (p := l ≠ [46, 46]) e2, Bool.true_and, Bool.true_and]
      have f1 : (l == [46]) = false := beq_eq_false_iff_ne.2 e1
      have f2 : (l == [46, 46]) = false := beq_eq_false_iff_ne.2 e2
      clear e1 e2
      by_cases e3 : 1 ≤ l.length
      · rw [decide_eq_true e3, Bool.true_and]
        by_cases e4 : l.length ≤ 14
        · rw [decide_eq_true e4, Bool.true_and]
          have i3 : (1 : Int) ≤ (l.length : Int) := by omega
          have i4 : (l.length : Int) ≤ 14 := by omega
          go_enter Try.func27, Try.ntmps27
          go_wp2_with fail
          refine (hc w).mono ?_
          rintro e w' ⟨rfl, hb⟩
          go_wp2_with fail
          go_ret
          first | exact ⟨rfl, hb⟩ | exact ⟨ret_bool (by simp), hb⟩
        · rw [decide_eq_false e4, Bool.false_and]
          have i3 : (1 : Int) ≤ (l.length : Int) := by omega
          have i4 : ¬ (l.length : Int) ≤ 14 := by omega
          go_enter Try.func27, Try.ntmps27
          go_wp2_with fail
          go_ret
          exact ⟨rfl, Below.refl _ _⟩
      · rw [decide_eq_false e3, Bool.false_and, Bool.false_and]
        have i3 : ¬ (1 : Int) ≤ (l.length : Int) := by omega
        go_enter Try.func27, Try.ntmps27
        go_wp2_with fail
        go_ret
        exact ⟨rfl, Below.refl _ _⟩
set_option maxRecDepth 100000 in
theorem refMayName_any (l : List UInt8) (w : World) (hl : l.length ≤ 1000000) :
    Calls Try.prog 28 #[str l] w fun e w' => e = .returned (.bool (mayName l)) ∧ Below w.heap.size w w' := by
  go_enter Try.func28, Try.ntmps28
  go_wp2_with fail
  go_loop [3] (fun i => ∃ k : Nat, k ≤ l.length ∧ i = .int .i64 (k : Int) ∧ (l.take k).all gb = true) (fun i => l.length - (intOf i).toNat)
  case atStart => exact ⟨0, Nat.zero_le _, rfl, by simp⟩
  case round =>
    obtain ⟨k, hk, rfl, hg⟩ := hrel
    by_cases hlt : k < l.length
    · have hlI : (k : Int) < (l.length : Int) := by omega
      have hts := take_snoc l k hlt
      have hmem : l[k] ∈ l := List.getElem_mem hlt
      have hbad : gb l[k] = false → mayName l = false := fun h => by
        unfold mayName
        have : l.all gb = false := Bool.eq_false_iff.2 fun h' => by
          rw [List.all_eq_true.1 h' _ hmem] at h
          cases h
        rw [this, Bool.and_false]
      have hb := l[k].toNat_lt
      obtain ⟨b, hbl⟩ : ∃ b, b = l[k] := ⟨_, rfl⟩
      rw [← hbl] at hts hmem hbad hb
      have hix : ∀ h, (ByteArray.mk l.toArray)[k]'h = b := fun h => (str_at l k hlt h).trans hbl.symm
      have hgb : gb b = (decide (33 ≤ b.toNat) && decide (b.toNat ≤ 126) && decide (b.toNat ≠ 47)) := rfl
      clear hbl
      have Hg := Lib.hid hg
      have Hts := Lib.hid hts
      have Hgb := Lib.hid hgb
      clear hg hts hgb
      by_cases a1 : b.toNat < 33
      · have i1 : (b.toNat : Int) < 33 := by omega
        have hno := Lib.hid (hbad (by rw [Hgb.out]; simp; omega))
        clear hbad
        go_wp2_with fail
        go_ret
        exact ⟨ret_bool hno.out.symm, Below.refl _ _⟩
      · by_cases a2 : 126 < b.toNat
        · have i1 : ¬ (b.toNat : Int) < 33 := by omega
          have i2 : (126 : Int) < (b.toNat : Int) := by omega
          have hno := Lib.hid (hbad (by rw [Hgb.out]; simp; omega))
          clear hbad
          go_wp2_with fail
          go_ret
          exact ⟨ret_bool hno.out.symm, Below.refl _ _⟩
        · have i1 : ¬ (b.toNat : Int) < 33 := by omega
          have i2 : ¬ (126 : Int) < (b.toNat : Int) := by omega
          by_cases a3 : b.toNat = 47
          · have i3 : ((b.toNat : Int) == 47) = true := by rw [beq_iff_eq]; omega
            have hno := Lib.hid (hbad (by rw [Hgb.out]; simp; omega))
            clear hbad a3
            go_wp2_with fail
            go_ret
            exact ⟨ret_bool hno.out.symm, Below.refl _ _⟩
          · have i3 : ((b.toNat : Int) == 47) = false := by rw [beq_eq_false_iff_ne]; omega
            clear hbad
            go_wp2_with fail
            go_round
            case rel =>
              refine ⟨k + 1, by omega, by go_num, ?_⟩
              rw [Hts.out, List.all_append, Hg.out, List.all_cons, List.all_nil, Hgb.out]
              simp
              omega
            case measure => simp only [intOf]; omega
    · have hlI : ¬ (k : Int) < (l.length : Int) := by omega
      rw [List.take_of_length_le (by omega)] at hg
      have hmn : mayName l = (decide (l ≠ [46]) && decide (l ≠ [46, 46]) && decide (1 ≤ l.length) && decide (l.length ≤ 14)) := by unfold mayName; rw [hg, Bool.and_true]
      have Hmn := Lib.hid hmn
      clear hmn hg
      by_cases e3 : 1 ≤ l.length
      · have i3 : (1 : Int) ≤ (l.length : Int) := by omega
        by_cases e4 : l.length ≤ 14
        · have i4 : (l.length : Int) ≤ 14 := by omega
          by_cases e1 : l = [46]
          · subst e1
            have hno := Lib.hid (show mayName [46] = false by decide)
            go_wp2_with fail
            go_ret
            exact ⟨ret_bool hno.out.symm, Below.refl _ _⟩
          · have f1 : (l == [46]) = false := beq_eq_false_iff_ne.2 e1
            by_cases e2 : l = [46, 46]
            · subst e2
              have hno := Lib.hid (show mayName [46, 46] = false by decide)
              clear e1
              go_wp2_with fail
              go_ret
              exact ⟨ret_bool hno.out.symm, Below.refl _ _⟩
            · have f2 : (l == [46, 46]) = false := beq_eq_false_iff_ne.2 e2
              have hno := Lib.hid (show mayName l = true by rw [Hmn.out]; simp [e1, e2, e4]; omega)
              clear e2 e1
              go_wp2_with fail
              go_ret
              exact ⟨ret_bool hno.out.symm, Below.refl _ _⟩
        · have i4 : ¬ (l.length : Int) ≤ 14 := by omega
          have hno := Lib.hid (show mayName l = false by rw [Hmn.out]; simp [e4])
          go_wp2_with fail
          go_ret
          exact ⟨ret_bool hno.out.symm, Below.refl _ _⟩
      · have i3 : ¬ (1 : Int) ≤ (l.length : Int) := by omega
        have hno := Lib.hid (show mayName l = false by rw [Hmn.out]; simp [e3])
        go_wp2_with fail
        go_ret
        exact ⟨ret_bool hno.out.symm, Below.refl _ _⟩
end Go.Proofs.Ytgeiafijibgdhaa.Cl
