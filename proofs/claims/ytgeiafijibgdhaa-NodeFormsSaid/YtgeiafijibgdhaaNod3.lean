/- node: which nodes may be. -/
import Derived.Test.YtgeiafijibgdhaaNod2
import Derived.Test.YtgeiafijibgdhaaRec2
set_option linter.unusedVariables false
set_option linter.unusedSimpArgs false
namespace Go.Proofs.Ytgeiafijibgdhaa.Cl
open Go Go.Proofs Go.RowKit Fl Rely

theorem infoNd_size : (Try.prog.info? 25).map (·.size) = some 9 := by kernel_rfl
theorem plOk_at {l : List Int} (h : plOk l) {k : Nat} (hk : k < l.length) : l[k] = -1 ∨ ((1 ≤ l[k] ∧ l[k] < 200) ∧ l[k] ∉ l.take k) := h k hk
set_option maxRecDepth 100000 in
set_option maxHeartbeats 4000000 in
theorem file_any (n : Nd) (w : World) :
    Calls Try.prog 50 #[ndV n] w fun e w' => e = .returned (.bool (decide (fileN n))) ∧ Below w.heap.size w w' := by
  have hP := fun w => places_any n w
  have hl5 : (placesN n).length = 5 := rfl
  have hfn : fileN n ↔ plOk (placesN n) ∧ 0 ≤ n.z ∧ n.z ≤ 1120 ∧ n.s = [] := Iff.rfl
  generalize placesN n = l at *
  have hmm := @run_makeMap Try.prog
  go_enter Try.func50, Try.ntmps50
  go_wp2_with (refine wp_want rfl fun K hK => ?_; refine wp_rw_box (P := Try.prog) (t := 25) (ndA n) rfl rfl ?_)
  intro w1 A1 b1 s1
  refine hK _ _ ?_
  clear hK K
  go_upto_region 2 with fail
  refine at_wp fun w2 hw2 => ?_
  have hS2 := set_new w1
  have b2 := below_new w1 (.map #[] 0)
  rw [← hw2] at hS2 b2
  clear hw2
  have A2 := A1.later b2
  have W2 := b1.trans (b2.mono b1.size)
  go_wp2_with (refine wp_want rfl fun K hK => ?_; refine wp_rw_load A2 Try.underlying25 rfl infoNd_size rfl rfl ?_; refine hK _ _ ?_; clear hK K)
  refine (hP _).mono ?_
  rintro e w3 ⟨u, rfl, O3, b3⟩
  have A3 := A2.later b3
  have hS3 := hS2.later b3
  have W3 := W2.trans (b3.mono W2.size)
  obtain ⟨h, c, rfl, k1, k2, k3, k4⟩ := io_shape O3 hl5 (by decide)
  have hlt13 : w1.heap.size < w2.heap.size := hS2.lt
  clear hP hmm hS2 A2 A1
  go_wp2_with fail
  go_loopw [5, 10] (fun _ i wr => ∃ (k : Nat) (S : List Int), k ≤ 5 ∧ i = .int .i64 k ∧ SetAt wr w1.heap.size S ∧ (∀ x, x ∈ S ↔ x ≠ -1 ∧ x ∈ l.take k) ∧ (∀ j (h : j < l.length), j < k → l[j] = -1 ∨ ((1 ≤ l[j] ∧ l[j] < 200) ∧ l[j] ∉ l.take j)) ∧ NdAt wr w.heap.size n ∧ wr.heap[h]? = w3.heap[h]? ∧ Below w.heap.size w wr ∧ w3.heap.size ≤ wr.heap.size) (fun _ i _ => 5 - (intOf i).toNat)
  case atStart => exact ⟨0, [], by decide, rfl, hS3, by simp, fun j hj hj' => by omega, A3, rfl, W3, Nat.le_refl _⟩
  case round =>
    clear hS3 A3
    obtain ⟨k, S, hk, rfl, hS, hSx, hgood, A, hh, hb, hsz⟩ := hrel
    have hn2 : w.heap.size ≠ w1.heap.size := by omega
    have hne : w1.heap.size ≠ h := by have := b3.size; omega
    by_cases hlt : k < 5
    · have hlI : (k : Int) < 5 := by omega
      have hc : wr.cell? ⟨h, k, none⟩ = some (.int .i64 (l[k]'(by omega))) := by
        rw [← O3.at_ k (by omega)]
        simp only [World.cell?, hh]
      have hts := Lib.hid (take_snoc l k (by omega))
      have hgk : plOk l → _ := fun h => plOk_at h (show k < l.length by omega)
      have hst : (l[k]'(by omega) = -1 ∨ ((1 ≤ l[k]'(by omega) ∧ l[k]'(by omega) < 200) ∧ l[k]'(by omega) ∉ l.take k)) → (∀ j (h : j < l.length), j < k + 1 → l[j] = -1 ∨ ((1 ≤ l[j] ∧ l[j] < 200) ∧ l[j] ∉ l.take j)) := fun h j hj hjk => by
        by_cases hjk' : j < k
        · exact hgood j hj hjk'
        · obtain rfl : j = k := by omega
          exact h
      generalize l[k]'(by omega) = p at *
      have Hgk := Lib.hid hgk
      have Hst := Lib.hid hst
      have hSx := Lib.hid hSx
      clear hgk hst hgood
      by_cases hp : p = -1
      · have hp1 : (p == -1) = true := by rw [beq_iff_eq]; exact hp
        have Hp := Lib.hid hp
        clear hp
        go_wp2_with fail
        go_roundw
        case rel =>
          refine ⟨k + 1, S, by omega, by go_num, hS, fun x => ?_, Hst.out (.inl Hp.out), A, hh, hb, hsz⟩
          rw [hSx.out, hts.out, List.mem_append, List.mem_singleton]
          constructor
          · exact fun h => ⟨h.1, .inl h.2⟩
          · rintro ⟨h1, h2 | h2⟩
            · exact ⟨h1, h2⟩
            · exact (h1 (h2.trans Hp.out)).elim
        case measure => simp only [intOf]; omega
      · have hp1 : (p == -1) = false := by rw [beq_eq_false_iff_ne]; exact hp
        have hin := in_set wr hS p
        obtain ⟨w4, hto, hS4, hg4, hz4⟩ := to_set wr hS p
        have hb4 := below_row hb hg4 (by have := hb.size; omega) (by omega)
        have A4 : NdAt w4 w.heap.size n := (hg4.block _ A.lt (fun e => hn2 (Option.some.inj e))).trans A
        have hh4 : w4.heap[h]? = w3.heap[h]? := (hg4.block h (by omega) (fun e => hne (Option.some.inj e).symm)).trans hh
        have notok : ¬ (p = -1 ∨ ((1 ≤ p ∧ p < 200) ∧ p ∉ l.take k)) → decide (fileN n) = false := fun h => decide_eq_false fun h' => h (Hgk.out (hfn.1 h').1)
        have hways : p < 1 ∨ (1 ≤ p ∧ 200 ≤ p) ∨ (1 ≤ p ∧ p < 200) := by omega
        rcases hways with h1 | ⟨h1, h2⟩ | ⟨h1, h2⟩
        case inr.inr =>
          by_cases hmem : p ∈ S
          · rw [decide_eq_true hmem] at hin
            have hno := Lib.hid (notok fun h => by
              rcases h with h | h
              · exact hp h
              · exact h.2 ((hSx.out p).1 hmem).2)
            clear hmem notok hp hfn
            go_wp2_with fail
            go_ret
            exact ⟨ret_bool hno.out.symm, hb⟩
          · rw [decide_eq_false hmem] at hin
            have Hp := Lib.hid hp
            have Hmem := Lib.hid hmem
            clear hmem notok hp hfn
            go_wp2_with fail
            go_roundw
            case rel =>
              refine ⟨k + 1, p :: S, by omega, by go_num, hS4, fun x => ?_, Hst.out (.inr ⟨⟨h1, h2⟩, fun h => Hmem.out ((hSx.out p).2 ⟨Hp.out, h⟩)⟩), A4, hh4, hb4, by omega⟩
              rw [List.mem_cons, hSx.out, hts.out, List.mem_append, List.mem_singleton]
              constructor
              · rintro (rfl | h)
                · exact ⟨Hp.out, .inr rfl⟩
                · exact ⟨h.1, .inl h.2⟩
              · rintro ⟨h1, h2 | h2⟩
                · exact .inr ⟨h1, h2⟩
                · exact .inl h2
            case measure => simp only [intOf]; omega
        all_goals
          have hno := Lib.hid (notok fun k => by rcases k with k | k <;> omega)
          clear notok hp hfn
          go_wp2_with fail
          go_ret
          exact ⟨ret_bool hno.out.symm, hb⟩
    · have hlI : ¬ (k : Int) < 5 := by omega
      have hpl : plOk l := fun j hj => hgood j hj (by omega)
      have z2 := A.cell 2 (.int .i64 n.z) rfl
      have z8 := A.cell 8 (str n.s) rfl
      have Hfn := Lib.hid hfn
      have Hpl := Lib.hid hpl
      clear hpl hgood hfn hSx
      by_cases e1 : 0 ≤ n.z
      · by_cases e2 : n.z ≤ 1120
        · by_cases e3 : n.s = []
          · have f3 : (n.s == []) = true := by rw [beq_iff_eq]; exact e3
            have hyes := Lib.hid (show decide (fileN n) = true from decide_eq_true (Hfn.out.2 ⟨Hpl.out, e1, e2, e3⟩))
            rw [e3] at z8
            clear e3 f3
            go_wp2_with fail
            go_ret
            exact ⟨ret_bool hyes.out.symm, hb⟩
          · have f3 : (n.s == []) = false := beq_eq_false_iff_ne.2 e3
            have hyes := Lib.hid (show decide (fileN n) = false from decide_eq_false fun h => e3 (Hfn.out.1 h).2.2.2)
            clear e3
            go_wp2_with fail
            go_ret
            exact ⟨ret_bool hyes.out.symm, hb⟩
        · have hyes := Lib.hid (show decide (fileN n) = false from decide_eq_false fun h => e2 (Hfn.out.1 h).2.2.1)
          go_wp2_with fail
          go_ret
          exact ⟨ret_bool hyes.out.symm, hb⟩
      · have hyes := Lib.hid (show decide (fileN n) = false from decide_eq_false fun h => e1 (Hfn.out.1 h).2.1)
        go_wp2_with fail
        go_ret
        exact ⟨ret_bool hyes.out.symm, hb⟩
end Go.Proofs.Ytgeiafijibgdhaa.Cl
