/- The document's PutIndex. -/
import Derived.Test.YtibpipppabommaaIdx2
import Derived.Test.YtibpipppabommaaRely
set_option linter.unusedVariables false
set_option linter.unusedSimpArgs false
namespace Go.Proofs.Ytibpipppabommaa.Cl
open Go Go.Proofs Go.RowKit Fl Rely

set_option maxRecDepth 100000 in
set_option maxHeartbeats 4000000 in
theorem refPut_any (v : Value) (l : List Int) (w : World) (hv : Rd w v (ints l)) :
    Calls Try.prog 19 #[v] w fun e w' => (okI l → e = .returned (.tuple #[blkV 5 (bodyI l), .bool true])) ∧ (¬ okI l → e = .returned (.tuple #[blkV 0 Z56, .bool false])) ∧ Below w.heap.size w w' := by
  obtain ⟨ad, cap, rfl, hc1, hc2, hcell, _⟩ := id hv
  rw [List.length_map] at *
  go_enter Try.func19, Try.ntmps19
  go_wp2_with (refine wp_want rfl fun K hK => ?_; refine wp_blk_alloc rfl ?_)
  intro w1 B1 b1 s1
  refine hK _ _ ?_
  clear hK K
  by_cases h16 : l.length = 16
  · have hne : ((l.length : Int) != 16) = false := by rw [bne_eq_false_iff_eq]; omega
    have hle16 : l.length ≤ 16 := by omega
    have hge16 : 16 ≤ l.length := by omega
    have H16 := Lib.hid h16
    clear h16
    go_wp2_with fail
    go_loopw [4, 5] (fun u i wr => ∃ k : Nat, k ≤ l.length ∧ i = .int .i64 k ∧ OB wr w1.heap.size u (twos (l.take k)) ∧ BlkAt wr w.heap.size 0 Z56 ∧ Below w.heap.size w wr ∧ w1.heap.size ≤ wr.heap.size ∧ (∀ j, j < k → ¬ badI l j)) (fun _ i _ => l.length - (intOf i).toNat)
    case atStart => exact ⟨0, Nat.zero_le _, rfl, OB.nil _ _, B1, b1, Nat.le_refl _, fun j hj => by omega⟩
    case round =>
      obtain ⟨k, hk, rfl, hU, hR, hb, hw1s, hno⟩ := hrel
      by_cases hlt : k < l.length
      · obtain ⟨ad, rfl, hcx⟩ := hcell k (by rw [List.length_map]; exact hlt)
        rw [List.getElem_map] at hcx
        have hcx := cell_later hb hcx
        have hbk := badI_at hlt
        have hts := Lib.hid (take_snoc l k hlt)
        generalize l[k] = n at *
        have hm := fun w => mayAt_any n w
        have hs1 : w1.heap.size ≤ wr.heap.size := hw1s
        have hlen : ∀ x, (twos (l.take k)).length + (two x).length ≤ 1000000 := fun x => by
          have h1 := twos_length (l.take k)
          have h2 : (two x).length = 2 := rfl
          rw [List.length_take] at h1
          omega
        by_cases hn1 : n = -1
        · subst hn1
          clear hm
          have Hbad := Lib.hid (show ¬ badI l k from fun h => (hbk.1 h).1 rfl)
          go_wp2_with fail
          go_loopw [6] (fun i wr' => ∃ j : Nat, j ≤ k ∧ i = .int .i64 j ∧ Below wr.heap.size wr wr') (fun i _ => k - (intOf i).toNat)
          case atStart => exact ⟨0, Nat.zero_le _, rfl, Below.refl _ _⟩
          case round =>
            obtain ⟨j, hj, rfl, hbi⟩ := hrel
            have hck := cell_later hbi hcx
            by_cases hjk : j < k
            · have hdr := (Below.refl wr.heap.size wr).drew
              have yk := fun x : Lat wr.drew => cell_later x.2 (show wr.drew.cell? _ = _ from hck)
              go_wp2_with fail
              refine wp_region_rely 16 (by kernel_rfl) (by kernel_rfl) ?_
              simp only [List.take_succ_cons, List.take_zero]
              generalize World.drew wr = wa at *
              repeat (first
                | (refine wpR_step0 ?_ ?_ (fun K hK => ?_); rfl; rfl; go_simp; refine hK _ ?_; clear hK K))
              refine wpR_nil fun x => ?_
              obtain ⟨wb, wbb⟩ := x
              simp only [close, List.drop_succ_cons, List.drop_zero]
              clear yk
              go_wp2_with fail
              go_roundw
              case rel => exact ⟨j + 1, by omega, by go_num, hbi.trans ((hdr.trans (wbb.mono hdr.size)).mono hbi.size)⟩
              case measure => simp only [intOf]; omega
            · obtain rfl : k = j := by omega
              go_wp2_with fail
              refine (highB_any 0 2 2 rfl w1.heap.size _ (by omega) (by decide) (Nat.le_trans hs1 hbi.size)).mono ?_
              rintro e w5 ⟨u5, rfl, hO5, hb5⟩
              rw [be2 (-1) 0 (by omega) (by omega)] at hO5
              have hU5 := (hU.below hbi).below hb5
              go_wp2_with (at_builtin; go_loud (refine wpList_app w1.heap.size _ _ (twos (l.take k)) (two (-1)) rfl _ _ rfl rfl rfl hU5 hO5.rd (hlen _) (Nat.le_trans (Nat.le_trans hs1 hbi.size) hb5.size) ?_))
              intro u6 w6 hO6 hb6 _
              have hR6 := ((hR.later hbi).later hb5).below hb6 s1
              have hb6' := ((hb.trans (hbi.mono hb.size)).trans (hb5.mono (Nat.le_trans hb.size hbi.size))).trans (hb6.mono b1.size)
              go_wp2_with fail
              go_roundw
              case rel =>
                refine ⟨k + 1, by omega, by go_num, ?_, hR6, hb6', Nat.le_trans (Nat.le_trans (Nat.le_trans hs1 hbi.size) hb5.size) hb6.size, fun j hj => ?_⟩
                · rw [hts.out, twos_snoc]
                  exact hO6
                · by_cases hjk : j < k
                  · exact hno j hjk
                  · obtain rfl : j = k := by omega
                    exact Hbad.out
              case measure => simp only [intOf]; omega
        · have hbn : (n != -1) = true := by rw [bne_iff_ne]; exact hn1
          by_cases hmay : 1 ≤ n ∧ n < 200
          · obtain ⟨m, rfl⟩ : ∃ m : Nat, n = (m : Int) := ⟨n.toNat, by omega⟩
            rw [decide_eq_true hmay] at hm
            go_wp2_with fail
            refine (hm _).mono ?_
            rintro e w2 ⟨rfl, rfl⟩
            have hmn : ¬ ((m : Int) = -1) := by omega
            go_wp2_with fail
            go_loopw [6] (fun i wr' => ∃ j : Nat, j ≤ k ∧ i = .int .i64 j ∧ Below wr.heap.size wr wr' ∧ (∀ x, x < j → l[x]? ≠ some (m : Int))) (fun i _ => k - (intOf i).toNat)
            case atStart => exact ⟨0, Nat.zero_le _, rfl, Below.refl _ _, fun x hx => by omega⟩
            case round =>
              obtain ⟨j, hj, rfl, hbi, hne'⟩ := hrel
              have hck := cell_later hbi hcx
              by_cases hjk : j < k
              · obtain ⟨ad2, e2, hcj⟩ := hcell j (by rw [List.length_map]; omega)
                obtain rfl := Option.some.inj e2
                rw [List.getElem_map] at hcj
                have hcj := cell_later hbi (cell_later hb hcj)
                have hjl : j < l.length := by omega
                have hkl : (k : Int) < (l.length : Int) := by omega
                have hjl' : (j : Int) < (l.length : Int) := by omega
                have hxj := Lib.hid (List.getElem?_eq_getElem hjl)
                generalize l[j] = x at *
                have hdr := (Below.refl wr.heap.size wr).drew
                by_cases hxm : x = (m : Int)
                · subst hxm
                  have hbad : badI l k := hbk.2 ⟨hmn, .inr (.inr (List.mem_of_getElem? (i := j) (by rw [List.getElem?_take, if_pos hjk]; exact hxj.out)))⟩
                  have hnok : ¬ okI l := fun h => h.2 k (by omega) hbad
                  go_wp2_with fail
                  have yk := fun x : Lat wr.drew => cell_later x.2 (show wr.drew.cell? _ = _ from hck)
                  have yj := fun x : Lat wr.drew => cell_later x.2 (show wr.drew.cell? _ = _ from hcj)
                  refine wp_region_rely 16 (by kernel_rfl) (by kernel_rfl) ?_
                  simp only [List.take_succ_cons, List.take_zero]
                  generalize World.drew wr = wa at *
                  repeat (first
                    | (refine wpR_step0 ?_ ?_ (fun K hK => ?_); rfl; rfl; go_simp; refine hK _ ?_; clear hK K))
                  refine wpR_nil fun x => ?_
                  obtain ⟨wb, wbb⟩ := x
                  simp only [close, List.drop_succ_cons, List.drop_zero]
                  clear yk yj
                  have hRb := ((hR.later hbi).later hdr).later wbb
                  have hbb := (hb.trans (hbi.mono hb.size)).trans ((hdr.trans (wbb.mono hdr.size)).mono (Nat.le_trans hb.size hbi.size))
                  go_wp2_with (refine wp_want rfl fun K hK => ?_; first | refine wp_blk_store rfl rfl rfl Z56_length hRb ?_ | (refine wp_blk_build0 rfl ?_; refine hK _ _ ?_; clear hK K))
                  intro w6 B6 b6 s6
                  refine hK _ _ ?_
                  clear hK K
                  go_wp2_with fail
                  exact bodyPost_ret (results_blk2 rfl rfl rfl B6) rfl ⟨fun h => (hnok h).elim, fun _ => rfl, below_grown hbb b6 (Nat.le_refl _) (Nat.le_refl _)⟩
                · have hxb : (x == (m : Int)) = false := beq_eq_false_iff_ne.2 hxm
                  have Hxm := Lib.hid hxm
                  go_wp2_with fail
                  have yk := fun x : Lat wr.drew => cell_later x.2 (show wr.drew.cell? _ = _ from hck)
                  have yj := fun x : Lat wr.drew => cell_later x.2 (show wr.drew.cell? _ = _ from hcj)
                  refine wp_region_rely 16 (by kernel_rfl) (by kernel_rfl) ?_
                  simp only [List.take_succ_cons, List.take_zero]
                  generalize World.drew wr = wa at *
                  repeat (first
                    | (refine wpR_step0 ?_ ?_ (fun K hK => ?_); rfl; rfl; go_simp; refine hK _ ?_; clear hK K))
                  refine wpR_nil fun x => ?_
                  obtain ⟨wb, wbb⟩ := x
                  simp only [close, List.drop_succ_cons, List.drop_zero]
                  clear yk yj
                  go_wp2_with fail
                  go_roundw
                  case rel =>
                    refine ⟨j + 1, by omega, by go_num, hbi.trans ((hdr.trans (wbb.mono hdr.size)).mono hbi.size), fun y hy => ?_⟩
                    by_cases hyj : y < j
                    · exact hne' y hyj
                    · obtain rfl : y = j := by omega
                      rw [hxj.out]
                      exact fun h => Hxm.out (Option.some.inj h)
                  case measure => simp only [intOf]; omega
              · obtain rfl : k = j := by omega
                have hnin : (m : Int) ∉ l.take k := fun h => by
                  obtain ⟨y, hy⟩ := List.getElem?_of_mem h
                  have hyk : y < k := by
                    have := (List.getElem?_eq_some_iff.1 hy).1
                    rw [List.length_take] at this
                    omega
                  rw [List.getElem?_take, if_pos hyk] at hy
                  exact hne' y hyk hy
                have Hbad := Lib.hid (show ¬ badI l k from fun h => by
                  rcases (hbk.1 h).2 with h | h | h
                  · omega
                  · omega
                  · exact hnin h)
                have e1 : IntKind.u64.wrap ((m : Int) + 1) = (m : Int) + 1 := IntWalk.u64_in _ (by omega)
                go_wp2_with fail
                refine (highB_any (m + 1) 2 2 rfl w1.heap.size _ (by omega) (by decide) (Nat.le_trans hs1 hbi.size)).mono ?_
                rintro e w5 ⟨u5, rfl, hO5, hb5⟩
                rw [be2 (m : Int) (m + 1) (by omega) (by omega)] at hO5
                have hU5 := (hU.below hbi).below hb5
                go_wp2_with (at_builtin; go_loud (refine wpList_app w1.heap.size _ _ (twos (l.take k)) (two (m : Int)) rfl _ _ rfl rfl rfl hU5 hO5.rd (hlen _) (Nat.le_trans (Nat.le_trans hs1 hbi.size) hb5.size) ?_))
                intro u6 w6 hO6 hb6 _
                have hR6 := ((hR.later hbi).later hb5).below hb6 s1
                have hb6' := ((hb.trans (hbi.mono hb.size)).trans (hb5.mono (Nat.le_trans hb.size hbi.size))).trans (hb6.mono b1.size)
                go_wp2_with fail
                go_roundw
                case rel =>
                  refine ⟨k + 1, by omega, by go_num, ?_, hR6, hb6', Nat.le_trans (Nat.le_trans (Nat.le_trans hs1 hbi.size) hb5.size) hb6.size, fun j hj => ?_⟩
                  · rw [hts.out, twos_snoc]
                    exact hO6
                  · by_cases hjk : j < k
                    · exact hno j hjk
                    · obtain rfl : j = k := by omega
                      exact Hbad.out
                case measure => simp only [intOf]; omega
          · rw [decide_eq_false hmay] at hm
            have hbad : badI l k := hbk.2 ⟨hn1, by omega⟩
            have hnok : ¬ okI l := fun h => h.2 k (by omega) hbad
            go_wp2_with fail
            refine (hm _).mono ?_
            rintro e w2 ⟨rfl, rfl⟩
            go_wp2_with (refine wp_want rfl fun K hK => ?_; first | refine wp_blk_store rfl rfl rfl Z56_length hR ?_ | (refine wp_blk_build0 rfl ?_; refine hK _ _ ?_; clear hK K))
            intro w6 B6 b6 s6
            refine hK _ _ ?_
            clear hK K
            go_wp2_with fail
            exact bodyPost_ret (results_blk2 rfl rfl rfl B6) rfl ⟨fun h => (hnok h).elim, fun _ => rfl, below_grown hb b6 (Nat.le_refl _) (Nat.le_refl _)⟩
      · obtain rfl : k = l.length := by omega
        rw [List.take_length] at hU
        have hok : okI l := ⟨H16.out, fun i hi => hno i (by omega)⟩
        go_wp2_with fail
        refine (body_any 5 _ (twos l) _ hU.rd (by rw [twos_length]; omega)).mono ?_
        rintro e w5 ⟨rfl, hb5⟩
        have hR5 := hR.later hb5
        rw [bodyOf_twos]
        have hb5 := hb.trans (hb5.mono hb.size)
        go_wp2_with (refine wp_want rfl fun K hK => ?_; refine wp_blk_store rfl rfl rfl (bodyI_length hle16) hR5 ?_)
        intro w6 B6 b6 s6
        refine hK _ _ ?_
        clear hK K
        go_wp2_with fail
        exact bodyPost_ret (results_blk2 rfl rfl rfl B6) rfl ⟨fun _ => rfl, fun h => (h hok).elim, below_grown hb5 b6 (Nat.le_refl _) (Nat.le_refl _)⟩
  · have hne : ((l.length : Int) != 16) = true := by rw [bne_iff_ne]; omega
    go_wp2_with (refine wp_want rfl fun K hK => ?_; first | refine wp_blk_store rfl rfl rfl Z56_length B1 ?_ | (refine wp_blk_build0 rfl ?_; refine hK _ _ ?_; clear hK K))
    intro w2 B2 b2 s2
    refine hK _ _ ?_
    clear hK K
    go_wp2_with fail
    exact bodyPost_ret (results_blk2 rfl rfl rfl B2) rfl ⟨fun h => (h16 h.1).elim, fun _ => rfl, below_grown b1 b2 (Nat.le_refl _) (Nat.le_refl _)⟩
end Go.Proofs.Ytibpipppabommaa.Cl
