/- clathrilaw4: full: bytes as a block's. -/
import Derived.Test.YtbagicjimfhmeaaDevB
import Derived.Test.YtbagicjimfhmeaaDev9
set_option linter.unusedVariables false
set_option linter.unusedSimpArgs false
namespace Go.Proofs.Ytbagicjimfhmeaa.Cl
open Go Go.Proofs Go.RowKit Fl

theorem OB.set {w : World} {B g n c : Nat} {l : List UInt8} (h : OB w B (.slice (some ⟨g, 0, none⟩) n c) l) (i : Nat) (hi : i < l.length) (x : UInt8) :
    w.cell? ⟨g, i, none⟩ = some (u8 l[i]) ∧ w.frozen? ⟨g, i, none⟩ = false ∧ OB (w.setCell ⟨g, i, none⟩ (u8 x)) B (.slice (some ⟨g, 0, none⟩) n c) (l.set i x) ∧ w.grownBy (w.setCell ⟨g, i, none⟩ (u8 x)) (some g) ∧ (w.setCell ⟨g, i, none⟩ (u8 x)).heap.size = w.heap.size := by
  obtain ⟨h1, h2⟩ := h
  rcases h2 with ⟨e, _⟩ | ⟨g', cap, cur, e, hb, hg, hnc, hcm, hcs, ht⟩
  · cases e
  · simp only [Value.slice.injEq, Option.some.injEq, Addr.mk.injEq, and_true] at e
    obtain ⟨rfl, rfl, rfl⟩ := e
    have hr : RowAt w g 5 cur := hg
    have hc : cur[i]? = some (u8 l[i]) := by
      have : (cur.toList.take (l.length * 1))[i]? = (bs l)[i]? := by rw [ht]
      rw [List.getElem?_take, if_pos (by omega)] at this
      rw [← Array.getElem?_toList, this]
      simp [bs, hi]
    obtain ⟨s1, s2, s3⟩ := RowAt.set hr i (u8 x)
    refine ⟨hr.cell i _ hc, hr.frozen, ⟨by simp [bs], Or.inr ⟨g, c, _, by rw [List.length_set], hb, s1, by rw [List.length_set]; exact hnc, hcm, by rw [Array.size_setIfInBounds]; exact hcs, ?_⟩⟩, s2, s3⟩
    rw [Array.toList_setIfInBounds, List.length_set, List.take_set, ht]
    simp [bs, List.map_set]
def fullB (l : List UInt8) : List UInt8 := l.take 64 ++ List.replicate (64 - l.length) 0
def fullTo (l : List UInt8) (j : Nat) : List UInt8 := l.take j ++ List.replicate (64 - j) 0
theorem fullTo_length (l : List UInt8) (j : Nat) (h : j ≤ l.length) (h' : j ≤ 64) : (fullTo l j).length = 64 := by simp [fullTo]; omega
theorem fullTo_set (l : List UInt8) (j : Nat) (h : j < l.length) (h' : j < 64) : (fullTo l j).set j l[j] = fullTo l (j + 1) := by
  apply List.ext_getElem
  · rw [List.length_set, fullTo_length l j (by omega) (by omega), fullTo_length l (j + 1) (by omega) (by omega)]
  · intro i h1 h2
    rw [List.getElem_set]
    simp only [fullTo]
    by_cases e : j = i
    · subst e
      rw [if_pos rfl, List.getElem_append_left (by rw [List.length_take]; omega), List.getElem_take]
    · rw [if_neg e]
      by_cases hl : i < j
      · rw [List.getElem_append_left (by rw [List.length_take]; omega), List.getElem_append_left (by rw [List.length_take]; omega), List.getElem_take, List.getElem_take]
      · rw [List.getElem_append_right (by rw [List.length_take]; omega), List.getElem_append_right (by rw [List.length_take]; omega), List.getElem_replicate, List.getElem_replicate]
theorem fullTo_end (l : List UInt8) (j : Nat) (h : j = l.length ∨ (j = 64 ∧ 64 ≤ l.length)) (h2 : j ≤ 64) : fullTo l j = fullB l := by
  unfold fullTo fullB
  rcases h with rfl | ⟨rfl, h⟩
  · rw [List.take_of_length_le (Nat.le_refl _), List.take_of_length_le h2]
  · rw [show 64 - l.length = 64 - 64 by omega]
theorem fullB_length (l : List UInt8) : (fullB l).length = 64 := by simp [fullB]; omega
def FuRel (w : World) (l : List UInt8) (i : Value) (wr : World) : Prop := ∃ j : Nat, j ≤ l.length ∧ j ≤ 64 ∧ i = .int .i64 (j : Int) ∧ OB wr w.heap.size (.slice (some ⟨w.heap.size, 0, none⟩) 64 64) (fullTo l j) ∧ Below w.heap.size w wr
theorem full_any (v : Value) (l : List UInt8) (w : World) (hv : Rd w v (bs l)) :
    Calls Try.prog 14 #[v] w fun e w' => e = .returned (.slice (some ⟨w.heap.size, 0, none⟩) 64 64) ∧ OB w' w.heap.size (.slice (some ⟨w.heap.size, 0, none⟩) 64 64) (fullB l) ∧ Below w.heap.size w w' := by
  obtain ⟨i8, hi8, hz8, hs8, hb8⟩ := info_parts infoU8Z
  have hmk := run_make_n (P := Try.prog) 34 5 i8 (.int .u8 0) Try.underlying34 hi8 hz8 hs8 rfl 64 64 rfl (by rw [hb8]; decide) (by decide)
  obtain ⟨z, hz⟩ : ∃ z, z = (List.replicate 64 (Value.int .u8 0)).toArray := ⟨_, rfl⟩
  rw [← hz] at hmk
  have O1 : OB (w.alloc (.cells z 5)) w.heap.size (.slice (some ⟨w.heap.size, 0, none⟩) 64 64) (fullTo l 0) := OB.lit' _ w _ _ _ (by rw [hz]; simp [fullTo, bs, Cl.u8]) (by rw [fullTo_length l 0 (by omega) (by omega)]) (Nat.le_refl _) (by rw [fullTo_length l 0 (by omega) (by omega)]; decide)
  clear hz
  obtain ⟨a0, cap, rfl, hc1, hc2, hcell, hnil⟩ := id hv
  rw [bs_length] at hc1 ⊢
  go_enter Try.func14, Try.ntmps14
  go_wp2_with fail
  have b1 := below_new w (.cells z 5)
  generalize w.alloc (.cells z 5) = w1 at *
  go_loopw [4] (fun i wr => FuRel w l i wr) (fun i _ => 64 - (intOf i).toNat)
  case atStart => exact ⟨0, Nat.zero_le _, by omega, rfl, O1, b1⟩
  case round =>
    clear O1 b1
    obtain ⟨j, hj, hj2, rfl, O, hb⟩ := hrel
    by_cases hjl : j < l.length
    · have hjI : (j : Int) < (l.length : Int) := by omega
      by_cases hj6 : j < 64
      · have hj6I : (j : Int) < 64 := by omega
        obtain ⟨ad, rfl, hcx⟩ := hcell j (by rw [bs_length]; exact hjl)
        have hcx := cell_later hb hcx
        rw [show (bs l)[j]'(by rw [bs_length]; exact hjl) = Cl.u8 l[j] by simp [bs]] at hcx
        obtain ⟨o1, o2, o3, o4, o5⟩ := OB.set O j (by rw [fullTo_length l j hj hj2]; exact hj6) l[j]
        rw [fullTo_set l j hjl hj6] at o3
        have hbb := below_row hb o4 hb.size (Nat.le_refl _)
        have hu8 : Cl.u8 l[j] = .int .u8 (l[j].toNat : Int) := rfl
        clear O hcell hnil hv
        go_wp2_with fail
        go_roundw
        case rel => exact ⟨j + 1, by omega, by omega, by go_num, o3, hbb⟩
        case measure => simp only [intOf]; omega
      · have hj6I : ¬ (j : Int) < 64 := by omega
        rw [fullTo_end l j (.inr ⟨by omega, by omega⟩) hj2] at O
        go_wp2_with fail
        go_ret
        exact ⟨rfl, O, hb⟩
    · have hjI : ¬ (j : Int) < (l.length : Int) := by omega
      rw [fullTo_end l j (.inl (by omega)) hj2] at O
      go_wp2_with fail
      go_ret
      exact ⟨rfl, O, hb⟩
end Go.Proofs.Ytbagicjimfhmeaa.Cl
