/- begun of layer 13. -/
import Derived.Test.YtibpipppabommaaIdx7
set_option linter.unusedVariables false
set_option linter.unusedSimpArgs false
namespace Go.Proofs.Ytibpipppabommaa.Cl
open Go Go.Proofs Go.RowKit Fl Rely

def okIB (l : List Int) : Bool := l.length == 16 && (List.range 16).all fun i => match l[i]? with
  | some x => x == -1 || (decide (1 ≤ x) && decide (x < 200) && !(l.take i).contains x)
  | none => false
theorem okI_of {l : List Int} (h : okIB l = true) : okI l := by
  unfold okIB at h
  rw [Bool.and_eq_true, beq_iff_eq, List.all_eq_true] at h
  refine ⟨h.1, fun i hi => ?_⟩
  have := h.2 i (List.mem_range.2 hi)
  rintro ⟨hl, h1, h2⟩
  rw [List.getElem?_eq_getElem hl] at this
  simp only [Bool.or_eq_true, Bool.and_eq_true, beq_iff_eq, decide_eq_true_eq, Bool.not_eq_true', List.contains_eq_mem, decide_eq_false_iff_not] at this
  rcases this with h | ⟨⟨h3, h4⟩, h5⟩
  · exact h1 h
  · rcases h2 with h | h | h
    · omega
    · omega
    · exact h5 h
theorem not_okI_of {l : List Int} (h : okIB l = false) : ¬ okI l := by
  rintro ⟨h1, h2⟩
  have : okIB l = true := by
    unfold okIB
    rw [Bool.and_eq_true, beq_iff_eq, List.all_eq_true]
    refine ⟨h1, fun i hi => ?_⟩
    have hi := List.mem_range.1 hi
    rw [List.getElem?_eq_getElem (by omega)]
    by_cases hb : l[i] = -1
    · simp [hb]
    · have := h2 i hi
      rw [badI_at (by omega)] at this
      simp only [Bool.or_eq_true, Bool.and_eq_true, beq_iff_eq, decide_eq_true_eq, Bool.not_eq_true', List.contains_eq_mem, decide_eq_false_iff_not]
      right
      refine ⟨⟨?_, ?_⟩, ?_⟩
      · exact Decidable.byContradiction fun h => this ⟨hb, .inl (by omega)⟩
      · exact Decidable.byContradiction fun h => this ⟨hb, .inr (.inl (by omega))⟩
      · exact fun h => this ⟨hb, .inr (.inr h)⟩
  rw [h] at this
  cases this
def L0 : List Int := (List.replicate 16 (-1)).set 3 9
theorem okL0 : okI L0 := okI_of (by decide +kernel)
theorem takeL0 : takeI (bodyI L0) = L0 := by decide +kernel
theorem goodL0 : goodI 5 (bodyI L0) := ⟨by rw [takeL0]; exact okL0, rfl, by rw [takeL0]⟩
theorem pcs5060 : pcs 50 60 = [⟨0, 50, 56⟩, ⟨1, 0, 4⟩] := by rfl

set_option maxRecDepth 100000 in
set_option maxHeartbeats 4000000 in
theorem idxBegun_any (w : World) : Calls Try.prog 15 #[] w fun e w' => e = .returned (.bool true) ∧ Below w.heap.size w w' := by
  obtain ⟨i3, hi3, hz3, hs3, hb3⟩ := info_parts info3
  go_enter Try.func15, Try.ntmps15
  go_wp2_with (at_make; go_loud (refine wpList_make_full _ rfl _ _ 22 rfl w.heap.size 3 i3 (.int .i64 0) 1 Try.underlying22 hi3 hz3 hs3 _ _ 16 16 16 rfl rfl (by omega) (by omega) (by rw [hb3]; omega) (by unfold maxLen; omega) (Nat.le_refl _) ?_))
  intro w1 hown hgr
  have hb1 := below_of_grown hgr
  clear hgr
  generalize (madeCells _ _).toList = xs0 at hown
  go_wp2_with fail
  go_loopw [2] (fun i wr => ∃ (k : Nat) (ys : List Value), k ≤ 16 ∧ i = .int .i64 k ∧ wr.ownsRow w.heap.size 3 1 (.slice (some ⟨w.heap.size, 0, none⟩) 16 16) 16 ys ∧ (∀ j, j < k → ys[j]? = some (.int .i64 (-1))) ∧ Below w.heap.size w wr) (fun i _ => 16 - (intOf i).toNat)
  case atStart => exact ⟨0, _, by omega, rfl, hown, fun j hj => by omega, hb1⟩
  case round =>
    obtain ⟨k, ys, hk, rfl, hown, hys, hb⟩ := hrel
    have hl : ys.length = 16 := by simpa using hown.1
    by_cases hlt : k < 16
    · have hki : (k : Int) < 16 := by omega
      have z := hown.cellAt k (by omega)
      rw [List.getElem?_eq_getElem (by omega)] at z
      have f := hown.frozenAt k
      have hown2 := (hown.stored k (.int .i64 (-1))).1
      go_wp2_with fail
      go_roundw
      case rel =>
        refine ⟨k + 1, _, by omega, by go_num, hown2, fun j hj => ?_, hb.setCell (Nat.le_refl _) _⟩
        rw [List.getElem?_set]
        by_cases hkj : k = j
        · rw [if_pos hkj, if_pos (by omega)]
        · rw [if_neg hkj]; exact hys j (by omega)
      case measure => simp only [intOf]; omega
    · obtain rfl : k = 16 := by omega
      have hys' : ys = ints (List.replicate 16 (-1)) := by
        apply List.ext_getElem?
        intro j
        by_cases hj : j < 16
        · rw [hys j hj, List.getElem?_map, List.getElem?_replicate, if_pos hj]; rfl
        · rw [List.getElem?_eq_none (by omega), List.getElem?_eq_none (by simp; omega)]
      subst hys'
      have z := hown.cellAt 3 (by omega)
      have z : wr.cell? ⟨w.heap.size, 3, none⟩ = some (.int .i64 (-1)) := z
      have f := hown.frozenAt 3
      have hO : IOwn (wr.setCell ⟨w.heap.size, 3, none⟩ (.int .i64 9)) w.heap.size (.slice (some ⟨w.heap.size, 0, none⟩) 16 16) L0 := (hown.stored 3 (.int .i64 9)).1
      have hb1 : Below w.heap.size w (wr.setCell ⟨w.heap.size, 3, none⟩ (.int .i64 9)) := hb.setCell (Nat.le_refl _) _
      go_wp2_with fail
      refine (put_any _ L0 _ hO.rd).mono ?_
      rintro e w5 ⟨h1, _, hb5⟩
      obtain rfl := h1 okL0
      have hb5 := hb1.trans (hb5.mono hb1.size)
      go_wp2_with (refine wp_want rfl fun K hK => ?_; refine wp_blk_alloc rfl ?_)
      intro w6 B6 b6 s6
      refine hK _ _ ?_
      clear hK K
      go_wp2_with (refine wp_want rfl fun K hK => ?_; refine wp_blk_store rfl rfl rfl (bodyI_length (by decide)) B6 ?_)
      intro w7 B7 b7 s7
      have hb7 := below_grown (hb5.trans (b6.mono hb5.size)) b7 hb5.size (Nat.le_refl _)
      clear s7
      refine hK _ _ ?_
      clear hK K
      go_wp2_with (refine wp_want rfl fun K hK => ?_; (refine wp_blk_load rfl rfl B7 ?_; refine hK _ _ ?_; clear hK K))
      refine (take_any 5 (bodyI L0) _ (bodyI_length (by decide))).mono ?_
      rintro e w8 ⟨h2, _, hb8⟩
      obtain ⟨u8, rfl, hU8⟩ := h2 goodL0
      have B8 := B7.later hb8
      have hb8 := hb7.trans (hb8.mono hb7.size)
      rw [takeL0] at hU8
      obtain ⟨g8, c8, rfl⟩ := own_form hU8 (by decide)
      go_wp2_with fail
      refine (where_any 5 _).mono ?_
      rintro e w9 ⟨rfl, rfl⟩
      rw [show whereI 5 = .tuple #[.int .i64 (-1), .int .i64 1, .bool true] from rfl]
      go_wp2_with fail
      refine (pieces_any 50 10 _).mono ?_
      rintro e w10 ⟨_, h3, hb10⟩
      obtain ⟨u10, rfl, hU10⟩ := h3 (by decide)
      have B10 := B8.later hb10
      have hU8 := hU8.below hb10
      have hb10 := hb8.trans (hb10.mono hb8.size)
      rw [show (50 : Int).toNat = 50 from rfl, show (50 + 10 : Int).toNat = 60 from rfl, pcs5060] at hU10
      obtain ⟨g10, c10, rfl⟩ := own_form hU10 (by decide)
      have k0 := B10.kind
      have x3 : w10.cell? ⟨g8, 3, none⟩ = some (.int .i64 9) := World.ownsRow.cellAt hU8 3 (by decide)
      have x0 : w10.cell? ⟨g8, 0, none⟩ = some (.int .i64 (-1)) := World.ownsRow.cellAt hU8 0 (by decide)
      have y0 : w10.cell? ⟨g10, 0, none⟩ = some (.int .i64 0) := World.ownsRow.cellAt hU10 0 (by decide)
      have y1 : w10.cell? ⟨g10, 1, none⟩ = some (.int .i64 50) := World.ownsRow.cellAt hU10 1 (by decide)
      have y2 : w10.cell? ⟨g10, 2, none⟩ = some (.int .i64 56) := World.ownsRow.cellAt hU10 2 (by decide)
      have y3 : w10.cell? ⟨g10, 3, none⟩ = some (.int .i64 1) := World.ownsRow.cellAt hU10 3 (by decide)
      have y4 : w10.cell? ⟨g10, 4, none⟩ = some (.int .i64 0) := World.ownsRow.cellAt hU10 4 (by decide)
      have y5 : w10.cell? ⟨g10, 5, none⟩ = some (.int .i64 4) := World.ownsRow.cellAt hU10 5 (by decide)
      rw [show L0.length = 16 from rfl]
      go_wp2_with fail
      go_returns
      exact ⟨rfl, hb10⟩
end Go.Proofs.Ytibpipppabommaa.Cl
