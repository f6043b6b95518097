/- rec: which writes may be a record, a record's head, its images, Put. -/
import Derived.Test.YtgeiafijibgdhaaRec1
import Derived.Test.YtgeiafijibgdhaaWr
import Derived.Test.YtgeiafijibgdhaaMap
set_option linter.unusedVariables false
set_option linter.unusedSimpArgs false
namespace Go.Proofs.Ytgeiafijibgdhaa.Cl
open Go Go.Proofs Go.RowKit Fl Rely

theorem in_set (w : World) {r : Nat} {S : List Int} (h : SetAt w r S) (x : Int) : (Instr.lookup 100 (.map (some r)) (.int .i64 x) false).run Try.prog w = .ok (.bool (decide (x ∈ S))) w :=
  run_in_set Try.underlying100 Try.underlying3 Try.zeroValue4 h x
theorem to_set (w : World) {r : Nat} {S : List Int} (h : SetAt w r S) (x : Int) : ∃ w', (Instr.mapUpdate 100 (.map (some r)) (.int .i64 x) (.bool true)).run Try.prog w = .ok () w' ∧ SetAt w' r (x :: S) ∧ w.grownBy w' (some r) ∧ w'.heap.size = w.heap.size :=
  run_to_set Try.underlying100 Try.underlying3 h x

/-- a write that may not be beside those ahead of it -/
def goodW (l : List Wr) (k : Nat) : Prop := ∀ x, l[k]? = some x → (0 ≤ x.2.1 ∧ x.2.1 ≤ 7) ∧ (0 ≤ x.1 ∧ x.1 < 200) ∧ x.1 ∉ (l.take k).map (·.1)
def okW (l : List Wr) : Prop := (∀ k, k < l.length → goodW l k) ∧ 1 ≤ l.length ∧ l.length ≤ 12
instance (l : List Wr) (k : Nat) : Decidable (goodW l k) := by
  unfold goodW
  cases h : l[k]? with
  | none => exact isTrue (fun x h => by cases h)
  | some x => exact decidable_of_iff ((0 ≤ x.2.1 ∧ x.2.1 ≤ 7) ∧ (0 ≤ x.1 ∧ x.1 < 200) ∧ x.1 ∉ (l.take k).map (·.1)) ⟨fun h y e => by cases e; exact h, fun h => h x rfl⟩
instance (l : List Wr) : Decidable (okW l) := by unfold okW; infer_instance
theorem goodW_at {l : List Wr} {k : Nat} (h : k < l.length) : goodW l k ↔ (0 ≤ l[k].2.1 ∧ l[k].2.1 ≤ 7) ∧ (0 ≤ l[k].1 ∧ l[k].1 < 200) ∧ l[k].1 ∉ (l.take k).map (·.1) := by
  unfold goodW
  rw [List.getElem?_eq_getElem h]
  exact ⟨fun k => k _ rfl, fun k x e => by cases e; exact k⟩

set_option maxRecDepth 100000 in
set_option maxHeartbeats 2000000 in
theorem recMay_any (v : Value) (l : List Wr) (w : World) (hl : l.length ≤ 1000) (hok : ∀ x ∈ l, WrOk x) (hv : RdW w v l) :
    Calls Try.prog 64 #[v] w fun e w' => e = .returned (.bool (decide (okW l))) ∧ Below w.heap.size w w' := by
  have hmm := @run_makeMap Try.prog
  obtain ⟨a, cap, rfl, hc1, hc2, hcell, _⟩ := id hv
  go_enter Try.func64, Try.ntmps64
  go_wp2_with fail
  refine at_wp fun w1 hw1 => ?_
  have hS1 := set_new w
  have hb1 := below_new w (.map #[] 0)
  rw [← hw1] at hS1 hb1
  clear hw1
  have hs1 : w.heap.size < w1.heap.size := hS1.lt
  go_loopw [5, 9] (fun _ i wr => ∃ k : Nat, k ≤ l.length ∧ i = .int .i64 k ∧ SetAt wr w.heap.size ((l.take k).map (·.1)).reverse ∧ Below w.heap.size w wr ∧ w1.heap.size ≤ wr.heap.size ∧ (∀ j, j < k → goodW l j)) (fun _ i _ => l.length - (intOf i).toNat)
  case atStart => exact ⟨0, Nat.zero_le _, rfl, hS1, hb1, Nat.le_refl _, fun j hj => by omega⟩
  case round =>
    clear hS1 hb1
    obtain ⟨k, hk, rfl, hS, hb, hsz, hgood⟩ := hrel
    by_cases hlt : k < l.length
    · obtain ⟨ad, rfl, hcx⟩ := hcell k hlt
      have hcx : ∀ i u, (wrC l[k])[i]? = some u → wr.cell? ((ad.add (k * 58)).add i) = some u := fun i u hu => cell_later hb (hcx i u hu)
      have hx := hok _ (List.getElem_mem hlt)
      have hgk := goodW_at hlt
      have hts := Lib.hid (take_snoc l k hlt)
      generalize l[k] = x at *
      obtain ⟨at_, kind, body⟩ := x
      go_wp2_with (refine wp_want rfl fun K hK => ?_; first | (refine wp_wr_elem (at_, kind, body) hx hcx rfl rfl ?_; refine hK _ _ ?_; clear hK K) | refine wp_wr_alloc rfl ?_)
      intro w2 A2 b2 s2
      refine hK _ _ ?_
      clear hK K
      go_wp2_with (refine wp_want rfl fun K hK => ?_; refine wp_wr_store A2 Z56_length hx rfl rfl rfl ?_)
      intro w3 A3 g3 z3
      refine hK _ _ ?_
      clear hK K
      have hb3 : Below wr.heap.size wr w3 := below_row b2 g3 b2.size (Nat.le_refl _)
      have hS3 := hS.later hb3
      have hb3 := hb.trans (hb3.mono hb.size)
      have c0 := A3.at_
      have c1 := A3.kind
      dsimp only at c0 c1
      have hin := in_set w3 hS3 at_
      have hsz3 : w1.heap.size ≤ w3.heap.size := by omega
      have hne : w.heap.size < wr.heap.size := by omega
      obtain ⟨w4, hto, hS4, hg4, hz4⟩ := to_set w3 hS3 at_
      have hb4 := below_row hb3 hg4 (by omega) (Nat.le_refl _)
      have Hb := Lib.hid hgk
      have notok : ¬ goodW l k → decide (okW l) = false := fun h => decide_eq_false fun h' => h (h'.1 k hlt)
      clear hv hgk A2 b2 g3 hS hcell
      have hways : kind < 0 ∨ (0 ≤ kind ∧ 7 < kind) ∨ (0 ≤ kind ∧ kind ≤ 7 ∧ at_ < 0) ∨ (0 ≤ kind ∧ kind ≤ 7 ∧ 0 ≤ at_ ∧ 200 ≤ at_) ∨ (0 ≤ kind ∧ kind ≤ 7 ∧ 0 ≤ at_ ∧ at_ < 200) := by omega
      rcases hways with h | ⟨h1, h⟩ | ⟨h1, h2, h⟩ | ⟨h1, h2, h3, h⟩ | ⟨h1, h2, h3, h4⟩
      case inr.inr.inr.inr =>
        by_cases hmem : at_ ∈ (l.take k).map (·.1)
        · have hd : decide (at_ ∈ ((l.take k).map (·.1)).reverse) = true := decide_eq_true (List.mem_reverse.2 hmem)
          rw [hd] at hin
          have hno := Lib.hid (notok fun h => (Hb.out.1 h).2.2 hmem)
          clear hmem hd notok
          go_wp2_with fail
          go_ret
          exact ⟨ret_bool hno.out.symm, hb3⟩
        · have hd : decide (at_ ∈ ((l.take k).map (·.1)).reverse) = false := decide_eq_false (fun h => hmem (List.mem_reverse.1 h))
          rw [hd] at hin
          have hg := Lib.hid (Hb.out.2 ⟨⟨h1, h2⟩, ⟨h3, h4⟩, hmem⟩)
          clear hmem hd notok
          go_wp2_with fail
          go_roundw
          case rel =>
            refine ⟨k + 1, by omega, by go_num, ?_, hb4, by omega, fun j hj => ?_⟩
            · rw [hts.out, List.map_append, List.reverse_append]
              exact hS4
            · by_cases hjk : j < k
              · exact hgood j hjk
              · obtain rfl : j = k := by omega
                exact hg.out
          case measure => simp only [intOf]; omega
      all_goals
        have hno := Lib.hid (notok fun k => by have := Hb.out.1 k; omega)
        clear notok
        go_wp2_with fail
        go_ret
        exact ⟨ret_bool hno.out.symm, hb3⟩
    · obtain rfl : k = l.length := by omega
      clear hcell hv hS
      by_cases h1 : 1 ≤ l.length
      · by_cases h12 : l.length ≤ 12
        · have e : decide (okW l) = true := decide_eq_true ⟨hgood, h1, h12⟩
          have E := Lib.hid e
          clear e
          go_wp2_with fail
          go_ret
          exact ⟨ret_bool (by rw [E.out]; simp; omega), hb⟩
        · have e : decide (okW l) = false := decide_eq_false fun h => h12 h.2.2
          have E := Lib.hid e
          clear e
          go_wp2_with fail
          go_ret
          exact ⟨ret_bool (by rw [E.out]; simp; omega), hb⟩
      · have e : decide (okW l) = false := decide_eq_false fun h => h1 h.2.1
        have E := Lib.hid e
        have h1' : decide (1 ≤ l.length) = false := decide_eq_false h1
        clear e
        go_wp2_with fail
        go_ret
        exact ⟨ret_bool (by rw [E.out]), hb⟩
end Go.Proofs.Ytgeiafijibgdhaa.Cl
