/- The document's TakeIndex. -/
import Derived.Test.YtibpipppabommaaIdx4
import Derived.Test.YtibpipppabommaaBlk2
set_option linter.unusedVariables false
set_option linter.unusedSimpArgs false
namespace Go.Proofs.Ytibpipppabommaa.Cl
open Go Go.Proofs Go.RowKit Fl Rely

set_option maxRecDepth 100000 in
set_option maxHeartbeats 4000000 in
theorem refTake_any (k : Int) (b : List UInt8) (w : World) (hb56 : b.length = 56) :
    Calls Try.prog 21 #[blkV k b] w fun e w' => (goodI k b → ∃ u, e = .returned (.tuple #[u, .bool true]) ∧ IOwn w' w.heap.size u (takeI b)) ∧ (¬ goodI k b → e = .returned (.tuple #[.slice none 0 0, .bool false])) ∧ Below w.heap.size w w' := by
  go_enter Try.func21, Try.ntmps21
  go_wp2_with (refine wp_want rfl fun K hK => ?_; refine wp_blk_box rfl rfl hb56 ?_)
  intro w1 B1 b1 s1
  refine hK _ _ ?_
  clear hK K
  go_wp2_with fail
  go_loopw [4, 5] (fun u i wr => ∃ j : Nat, j ≤ 16 ∧ i = .int .i64 j ∧ IOwn wr w1.heap.size u ((takeI b).take j) ∧ Below w1.heap.size w1 wr) (fun _ i _ => 16 - (intOf i).toNat)
  case atStart => exact ⟨0, Nat.zero_le _, rfl, IOwn.nil _ _, Below.refl _ _⟩
  case round =>
    obtain ⟨j, hj, rfl, hU, hb⟩ := hrel
    have hBr := B1.later hb
    by_cases hlt : j < 16
    · have hdr := (Below.refl wr.heap.size wr).drew
      have e1 : IntKind.i64.wrap (2 * (j : Int)) = 2 * (j : Int) := IntWalk.i64_in _ (by omega)
      have e2 : IntKind.i64.wrap (2 * (j : Int) + 1) = 2 * (j : Int) + 1 := IntWalk.i64_in _ (by omega)
      have hBd := hBr
      have c1 := hBd.byte (i := 2 * j) (by omega)
      have c2 := hBd.byte (i := 2 * j + 1) (by omega)
      have et : tkI b j = (((b[2 * j]'(by omega)).toNat * 256 + (b[2 * j + 1]'(by omega)).toNat : Nat) : Int) - 1 := by
        unfold tkI
        rw [List.getD_eq_getElem?_getD, List.getD_eq_getElem?_getD, List.getElem?_eq_getElem (by omega), List.getElem?_eq_getElem (by omega)]
        rfl
      have hts := Lib.hid (takeI_snoc b j hlt)
      have hxy := Lib.hid (show (b.drop (2 * j)).take 2 = [b[2 * j]'(by omega), b[2 * j + 1]'(by omega)] from by
        rw [List.drop_eq_getElem_cons (by omega), List.drop_eq_getElem_cons (by omega)]
        rfl)
      generalize b[2 * j]'(by omega) = x0 at *
      generalize b[2 * j + 1]'(by omega) = x1 at *
      have hx0 := x0.toNat_lt
      have hx1 := x1.toNat_lt
      have hj2 : 2 * (j : Int) < 56 := by omega
      have hj3 : 2 * (j : Int) + 1 < 56 := by omega
      have hj4 : 0 ≤ 2 * (j : Int) := by omega
      have hj5 : 0 ≤ 2 * (j : Int) + 1 := by omega
      have t1 : (2 * (j : Int)).toNat = 2 * j := by omega
      have t2 : (2 * (j : Int) + 1).toNat = 2 * j + 1 := by omega
      have et' := Lib.hid et
      clear et
      clear hdr hBd
      have hsl := fun w1 => slice_body (g := w.heap.size) (i := 2 * j) (n := 2) (by omega) (by omega) (2 * (j : Int)) (2 * (j : Int) + 2) (by omega) (by omega) w1
      have hrd := hBr.rd (i := 2 * j) (n := 2) (by omega)
      rw [hxy.out] at hrd
      have e8 : ((num [x0, x1] : Nat) : Int) = (x0.toNat : Int) * 256 + (x1.toNat : Int) := by unfold num; simp
      have e9 : IntKind.i64.wrap ((x0.toNat : Int) * 256 + (x1.toNat : Int)) = (x0.toNat : Int) * 256 + (x1.toNat : Int) := IntWalk.i64_in _ (by omega)
      have e10 : (x0.toNat : Int) * 256 + (x1.toNat : Int) - 1 = tkI b j := by rw [et'.out]; omega
      go_wp2_with fail
      refine (num_any _ [x0, x1] _ hrd (by simp)).mono ?_
      rintro e w2 ⟨rfl, rfl⟩
      rw [e8]
      have hUn := fun o => hU.below (below_new wr o)
      go_wp2_with (at_builtin; go_loud (refine wpList_int1 w1.heap.size _ _ ((takeI b).take j) (tkI b j) rfl _ _ rfl rfl rfl (hUn _) (one_rd (new_cells wr #[.int .i64 (tkI b j)] 3 0 _ rfl)) (by rw [List.length_take]; omega) (Nat.le_trans hb.size (le_new _ _)) ?_))
      intro u6 w6 hO6 hb6
      have hb6' := (hb.trans ((below_new wr _).mono hb.size)).trans hb6
      go_wp2_with fail
      go_roundw
      case rel => exact ⟨j + 1, by omega, by go_num, by rw [hts.out]; exact hO6, hb6'⟩
      case measure => simp only [intOf]; omega
    · obtain rfl : j = 16 := by omega
      rw [List.take_of_length_le (by rw [takeI_length]; omega)] at hU
      go_wp2_with fail
      refine (refPut_any _ (takeI b) _ hU.rd).mono ?_
      rintro e w5 ⟨h1, h2, hb5⟩
      have hU5 := hU.below hb5
      have hB5 := (hBr.later hb5)
      have hb5' := hb.trans (hb5.mono hb.size)
      by_cases hok : okI (takeI b)
      · rw [h1 hok]
        by_cases hg : 5 = k ∧ bodyI (takeI b) = b
        · have hgood : goodI k b := ⟨hok, hg⟩
          have Hr := Lib.hid (decide_eq_true hg)
          clear hg
          go_wp2_with (refine wp_want rfl fun K hK => ?_; refine wp_blk_alloc rfl ?_)
          intro w6 B6 b6 s6
          refine hK _ _ ?_
          clear hK K
          go_wp2_with (refine wp_want rfl fun K hK => ?_; go_loud (refine wp_blk_store rfl rfl rfl (bodyI_length (Nat.le_of_eq (takeI_length b))) B6 ?_))
          intro w7 B7 b7 s7
          refine hK _ _ ?_
          clear hK K
          have b57 := below_grown b6 b7 (Nat.le_refl _) (Nat.le_refl _)
          have hBr7 := hB5.later b57
          have hU7 := hU5.below b57
          have hb7 := hb5'.trans (b57.mono hb5'.size)
          go_wp2_with (refine wp_want rfl fun K hK => ?_; first | (refine wp_blk_load rfl rfl B7 ?_; refine hK _ _ ?_; clear hK K) | (refine wp_blk_load rfl rfl hBr7 ?_; refine hK _ _ ?_; clear hK K) | (refine wp_blk_neqR true Hr.out rfl rfl rfl B7.1 hBr7.1 ?_; refine hK _ _ ?_; clear hK K))
          go_returns
          exact ⟨fun _ => ⟨_, rfl, own_mono hU7 (Nat.le_of_lt s1)⟩, fun h => (h hgood).elim, b1.trans (hb7.mono b1.size)⟩
        · have hgood : ¬ goodI k b := fun h => hg h.2
          have Hr := Lib.hid (decide_eq_false hg)
          clear hg
          go_wp2_with (refine wp_want rfl fun K hK => ?_; refine wp_blk_alloc rfl ?_)
          intro w6 B6 b6 s6
          refine hK _ _ ?_
          clear hK K
          go_wp2_with (refine wp_want rfl fun K hK => ?_; go_loud (refine wp_blk_store rfl rfl rfl (bodyI_length (Nat.le_of_eq (takeI_length b))) B6 ?_))
          intro w7 B7 b7 s7
          refine hK _ _ ?_
          clear hK K
          have b57 := below_grown b6 b7 (Nat.le_refl _) (Nat.le_refl _)
          have hBr7 := hB5.later b57
          have hU7 := hU5.below b57
          have hb7 := hb5'.trans (b57.mono hb5'.size)
          go_wp2_with (refine wp_want rfl fun K hK => ?_; first | (refine wp_blk_load rfl rfl B7 ?_; refine hK _ _ ?_; clear hK K) | (refine wp_blk_load rfl rfl hBr7 ?_; refine hK _ _ ?_; clear hK K) | (refine wp_blk_neqR false Hr.out rfl rfl rfl B7.1 hBr7.1 ?_; refine hK _ _ ?_; clear hK K))
          go_returns
          exact ⟨fun h => (hgood h).elim, fun _ => rfl, b1.trans (hb7.mono b1.size)⟩
      · rw [h2 hok]
        have hgood : ¬ goodI k b := fun h => hok h.1
        go_wp2_with (refine wp_want rfl fun K hK => ?_; refine wp_blk_alloc rfl ?_)
        intro w6 B6 b6 s6
        refine hK _ _ ?_
        clear hK K
        go_wp2_with (refine wp_want rfl fun K hK => ?_; refine wp_blk_store rfl rfl rfl Z56_length B6 ?_)
        intro w7 B7 b7 s7
        refine hK _ _ ?_
        clear hK K
        have b57 := below_grown b6 b7 (Nat.le_refl _) (Nat.le_refl _)
        have hBr7 := hB5.later b57
        have hU7 := hU5.below b57
        have hb7 := hb5'.trans (b57.mono hb5'.size)
        go_wp2_with fail
        go_returns
        exact ⟨fun h => (hgood h).elim, fun _ => rfl, b1.trans (hb7.mono b1.size)⟩
end Go.Proofs.Ytibpipppabommaa.Cl
