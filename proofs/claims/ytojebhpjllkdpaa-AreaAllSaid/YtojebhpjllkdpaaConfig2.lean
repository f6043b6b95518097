/- The walk of (*Picks).Config. -/
import Derived.Test.YtojebhpjllkdpaaConfig
import Derived.Lib.SmallJoins
set_option linter.unusedVariables false
set_option linter.unusedSimpArgs false
namespace Go.Proofs.Ytojebhpjllkdpaa.Cl
open Go Go.Proofs Go.RowKit Fl Rely

set_option maxRecDepth 100000 in
set_option maxHeartbeats 4000000 in
theorem config_any (g n0 most : Nat) (v : Value) (l : List UInt8) (w : World) (hp : Pk w g v l n0) (hm : 0 < most) (hm2 : most ≤ 8) :
    Calls Try.prog 30 #[.pointer (some ⟨g, 0, none⟩), .int .i64 most] w fun e w' => ∃ cv c, e = .returned cv ∧ Cfg w' w.heap.size cv c ∧ 1 ≤ c.length ∧ c.length ≤ most ∧ (∃ n, Pk w' g v l n) ∧ w.grownBy w' (some g) := by
  have hgB := World.block_lt_of_cell? _ _ hp.c0
  go_enter Try.func30, Try.ntmps30
  go_wp2_with fail
  refine (num_pick g n0 most v l _ hp hm (by omega)).mono ?_
  rintro e w1 ⟨rfl, hp1, hg1⟩
  have hN := pick_lt l n0 most hm
  generalize hNe : pick l n0 most = N at *
  clear hNe
  have e1 : wrap64 (1 + (N : Int)) = ((N + 1 : Nat) : Int) := by rw [IntWalk.wrap64_in _ (by omega)]; omega
  go_wp2_with fail
  go_loopw [5, 6] (fun cv i wr => ∃ (k : Nat) (c : List Sh), k ≤ N + 1 ∧ i = .int .i64 k ∧ c.length = k ∧ Cfg wr w.heap.size cv c ∧ (∃ n, Pk wr g v l n) ∧ w.grownBy wr (some g)) (fun _ i _ => N + 1 - (intOf i).toNat)
  case atStart => exact ⟨0, [], by omega, rfl, rfl, ⟨⟨rfl, .inl ⟨rfl, rfl⟩⟩, by simp, List.Pairwise.nil⟩, ⟨_, hp1⟩, hg1⟩
  case round =>
    obtain ⟨k, c, hk, rfl, hck, hcfg, hpk, hgr⟩ := hrel
    subst hck
    obtain ⟨ad, cap, rfl⟩ := hcfg.form
    by_cases hlt : c.length < N + 1
    · go_wp2_with fail
      have hcfg := hcfg.grown (grown_of_below (Below.refl _ _).drew _) hgB
      have hpk : ∃ n, Pk wr.drew g v l n := hpk.imp fun n h => h.below (Below.refl _ _).drew
      have hgr := grownBy_drew hgr
      refine RelyG.wp_region_relyG (pkRel g v l) 18 (by kernel_rfl) (by kernel_rfl) ?_
      simp only [List.take_succ_cons, List.take_zero]
      generalize World.drew wr = w3 at *
      repeat (first
        | (refine RelyG.wpR_step0 ?_ ?_ (fun K hK => ?_); rfl; rfl; go_simp; refine hK _ ?_; clear hK K))
      refine RelyG.wpR_fresh (Lt 3) 20 rfl rfl rfl rfl (of_decide_eq_true rfl) (fun _ _ _ h _ => h) (fun x => ?_) ?_
      · go_simp
        exact pk_num (m := 3) hpk x (by decide) (by decide)
      repeat (first
        | (refine RelyG.wpR_step0 ?_ ?_ (fun K hK => ?_); rfl; rfl; go_simp; refine hK _ ?_; clear hK K))
      refine RelyG.wpR_fresh (Lt 4) 22 rfl rfl rfl rfl (of_decide_eq_true rfl) (fun _ _ _ h _ => h) (fun x => ?_) ?_
      · go_simp
        exact pk_num (m := 4) hpk x (by decide) (by decide)
      refine RelyG.wpR_freshE Lab 23 [(22, Lt 4), (20, Lt 3)] rfl rfl rfl rfl (of_decide_eq_true rfl) (fun _ _ _ h _ => h) (fun x => ?_) ?_
      · simp only [RelyG.close]
        rintro u22 ⟨b, hb, rfl⟩ u20 ⟨a, ha, rfl⟩
        go_simp
        exact ⟨RelyG.Rel.refl _ _, _, _, ha, hb, rfl⟩
      refine RelyG.wpR_fresh (Five g) 24 rfl rfl rfl rfl (of_decide_eq_true rfl) (persist_five g v l) (fun x => ?_) ?_
      · have hgx := pk_lt hpk x
        go_simp
        exact ⟨pk_alloc x _, _, rfl, Nat.ne_of_gt hgx, fun k hk => by rcases lt5 hk with rfl | rfl | rfl | rfl | rfl <;> simp [blk]⟩
      repeat (first
        | (refine RelyG.wpR_step0 ?_ ?_ (fun K hK => ?_); rfl; rfl; go_simp; refine hK _ ?_; clear hK K))
      refine RelyG.wpR_fresh (Lt 5) 26 rfl rfl rfl rfl (of_decide_eq_true rfl) (fun _ _ _ h _ => h) (fun x => ?_) ?_
      · go_simp
        exact pk_num (m := 5) hpk x (by decide) (by decide)
      refine RelyG.wpR_freshE (At5 g) 27 [(26, Lt 5), (24, Five g)] rfl rfl rfl rfl (of_decide_eq_true rfl) (persist_at5 g v l) (fun x => ?_) ?_
      · simp only [RelyG.close]
        rintro u26 ⟨i, hi, rfl⟩ u24 ⟨h, rfl, hg, hc⟩
        have hi2 : (i : Int) < 5 := by omega
        go_simp
        exact ⟨RelyG.Rel.refl _ _, h, i, rfl, hi, hg, hc i hi⟩
      refine RelyG.wpR_freshE (Btw 4 100) 28 [(27, At5 g)] rfl rfl rfl rfl (of_decide_eq_true rfl) (fun _ _ _ h _ => h) (fun x => ?_) ?_
      · simp only [RelyG.close]
        rintro u27 ⟨h, i, rfl, hi, hg, hc⟩
        go_simp
        obtain ⟨z, hz1, hz2, hz3⟩ := blk_in hi
        exact ⟨RelyG.Rel.refl _ _, z, hz1, hz2, by rw [hz3]⟩
      repeat (first
        | (refine RelyG.wpR_step0 ?_ ?_ (fun K hK => ?_); rfl; rfl; go_simp; refine hK _ ?_; clear hK K))
      refine RelyG.wpR_fresh (Lt 30) 30 rfl rfl rfl rfl (of_decide_eq_true rfl) (fun _ _ _ h _ => h) (fun x => ?_) ?_
      · go_simp
        exact pk_num (m := 30) hpk x (by decide) (by decide)
      refine RelyG.wpR_freshE (Btw 16 45) 31 [(30, Lt 30)] rfl rfl rfl rfl (of_decide_eq_true rfl) (fun _ _ _ h _ => h) (fun x => ?_) ?_
      · simp only [RelyG.close]
        rintro u30 ⟨i, hi, rfl⟩
        have h1 : 16 ≤ 16 + i ∧ 16 + i ≤ 45 := by omega
        have ei : IntKind.i64.wrap (16 + (i : Int)) = ((16 + i : Nat) : Int) := by rw [IntWalk.i64_in _ (by omega)]; omega
        go_simp
        exact ⟨RelyG.Rel.refl _ _, _, h1.1, h1.2, rfl⟩
      repeat (first
        | (refine RelyG.wpR_step0 ?_ ?_ (fun K hK => ?_); rfl; rfl; go_simp; refine hK _ ?_; clear hK K))
      refine RelyG.wpR_fresh (Lt 9) 33 rfl rfl rfl rfl (of_decide_eq_true rfl) (fun _ _ _ h _ => h) (fun x => ?_) ?_
      · go_simp
        exact pk_num (m := 9) hpk x (by decide) (by decide)
      refine RelyG.wpR_freshE (Btw 1 9) 34 [(33, Lt 9)] rfl rfl rfl rfl (of_decide_eq_true rfl) (fun _ _ _ h _ => h) (fun x => ?_) ?_
      · simp only [RelyG.close]
        rintro u33 ⟨i, hi, rfl⟩
        have h1 : 1 ≤ 1 + i ∧ 1 + i ≤ 9 := by omega
        have ei : IntKind.i64.wrap (1 + (i : Int)) = ((1 + i : Nat) : Int) := by rw [IntWalk.i64_in _ (by omega)]; omega
        go_simp
        exact ⟨RelyG.Rel.refl _ _, _, h1.1, h1.2, rfl⟩
      refine RelyG.wpR_freshE ShV 35 [(34, Btw 1 9), (31, Btw 16 45), (28, Btw 4 100), (23, Lab)] rfl rfl rfl rfl (of_decide_eq_true rfl) (fun _ _ _ h _ => h) (fun x => ?_) ?_
      · simp only [RelyG.close]
        rintro u34 ⟨f, hf1, hf2, rfl⟩ u31 ⟨o, ho1, ho2, rfl⟩ u28 ⟨z, hz1, hz2, rfl⟩ u23 ⟨a, b, ha, hb, rfl⟩
        go_simp
        exact ⟨RelyG.Rel.refl _ _, ⟨a, b, z, o, f⟩, sh_ok ha hb hz1 hz2 ho1 ho2 hf1 hf2, rfl⟩
      refine RelyG.wpR_fresh (NewS w3.heap.size g) 8 rfl rfl rfl rfl (of_decide_eq_true rfl) (persist_newS _ g v l) (fun x => ?_) ?_
      · have hgx := pk_lt hpk x
        have hBx := x.2.1.size
        go_simp
        exact ⟨pk_alloc x _, _, rfl, hBx, Nat.ne_of_gt hgx, heap_alloc_new _ _⟩
      refine RelyG.wpR_nil fun x => ?_
      obtain ⟨w4, w4b⟩ := x
      simp only [RelyG.close, List.drop_succ_cons, List.drop_zero]
      rintro u8 ⟨b8, rfl, hB8, hg8, hh8⟩ u35 ⟨s, hs, rfl⟩ u34 _ u33 _ u31 _ u30 _ u28 _ u27 _ u26 _ u24 _ u23 _ u22 _ u20 _
      simp only [Act.put, List.setIfInBounds_toArray, List.set_cons_zero, List.set_cons_succ]
      have hcfg4 := hcfg.grown w4b.1 hgB
      have hpk4 := w4b.2 hpk
      have hgr34 := w4b.1
      have k0 := Joins.cell_of_block hh8 0
      have k1 := Joins.cell_of_block hh8 1
      have k2 := Joins.cell_of_block hh8 2
      have k3 := Joins.cell_of_block hh8 3
      have k4 := Joins.cell_of_block hh8 4
      have f0 := Joins.unfrozen_of_block hh8 0
      have f1 := Joins.unfrozen_of_block hh8 1
      have f2 := Joins.unfrozen_of_block hh8 2
      have f3 := Joins.unfrozen_of_block hh8 3
      have f4 := Joins.unfrozen_of_block hh8 4
      clear w4b
      obtain ⟨sv, sc, sb, sl, sf⟩ := s
      simp only [Sh.cells]
      go_wp2_with fail
      refine at_wp fun w5 hw5 => ?_
      have hbox : w5.heap[b8]? = some (.cells (Sh.cells ⟨sv, sc, sb, sl, sf⟩).toArray 54 (0, 0)) := by
        rw [hw5]
        exact Joins.block_setCell (Joins.block_setCell (Joins.block_setCell (Joins.block_setCell (Joins.block_setCell hh8 _) _) _) _) _
      have hg45 : w4.grownBy w5 (some b8) := by
        rw [hw5]
        exact grownBy_trans (grownBy_trans (grownBy_trans (grownBy_trans (setCell_grown _ _ _ _) (setCell_grown _ _ _ _)) (setCell_grown _ _ _ _)) (setCell_grown _ _ _ _)) (setCell_grown _ _ _ _)
      clear hw5 k0 k1 k2 k3 k4 f0 f1 f2 f3 f4
      have hcfg5 := hcfg4.above hcfg hg45 hB8
      have hpk5 := pk_above hpk hpk4 hg45 hB8
      have hgr5 := grownBy_above hgr34 hg45 hB8
      clear hcfg4 hpk4 hgr34 hg45 hh8
      obtain ⟨y, hy, hyn⟩ := free_code (c.map fun s => code s.v s.c) (by simp; omega)
      go_loopw [9] (fun i wr => ∃ (j : Nat) (s : Sh), j ≤ c.length ∧ i = .int .i64 j ∧ wr.heap[b8]? = some (.cells s.cells.toArray 54 (0, 0)) ∧ s.ok ∧ w5.grownBy wr (some b8) ∧ ∀ (m : Nat) (h : m < c.length), m < j → ¬ (c[m].v = s.v ∧ c[m].c = s.c)) (fun i wr => boxDist wr b8 y * (c.length + 1) + (c.length - (intOf i).toNat))
      case atStart => exact ⟨0, _, by omega, rfl, hbox, hs, World.grownBy.refl _ _, fun m h h' => by omega⟩
      case round =>
        obtain ⟨j, s, hj, rfl, hbox6, hs6, hg56, hap⟩ := hrel
        by_cases hjl : j < c.length
        · obtain ⟨gb, hgb⟩ := hcfg5.at_ (by omega)
          subst hgb
          go_wp2_with fail
          go_loopw [9] (fun i wr' => ∃ (j3 : Nat) (s3 : Sh), j3 < c.length ∧ i = .int .i64 j3 ∧ wr'.heap[b8]? = some (.cells s3.cells.toArray 54 (0, 0)) ∧ s3.ok ∧ w5.grownBy wr' (some b8) ∧ (∀ (m : Nat) (h : m < c.length), m < j3 → ¬ (c[m].v = s3.v ∧ c[m].c = s3.c)) ∧ ((j3 = j ∧ dist y s3 = dist y s) ∨ dist y s3 < dist y s)) (fun _ wr' => boxDist wr' b8 y)
          case atStart => exact ⟨j, s, hjl, rfl, hbox6, hs6, hg56, hap, .inl ⟨rfl, rfl⟩⟩
          case round =>
            have hdist6 := boxDist_of (y := y) hbox6
            clear hap hs6 hbox6 hg56
            obtain ⟨j3, s3, hj3, rfl, hbox7, hs7, hg57, hap7, hd7⟩ := hrel
            have hcfg7 := hcfg5.above hcfg hg57 hB8
            have b7 := box_cells hbox7
            have q0 : wr.cell? ⟨gb, j3 * 5, none⟩ = some (.int .i64 c[j3].v) := hcfg7.cell j3 0 hj3 (by decide)
            have q1 : wr.cell? ⟨gb, j3 * 5 + 1, none⟩ = some (.int .i64 c[j3].c) := hcfg7.cell j3 1 hj3 (by decide)
            have hdr := (Below.refl wr.heap.size wr).drew
            have y0 := fun x : Rely.Lat wr.drew => cell_later x.2 (show wr.drew.cell? _ = _ from q0)
            have y1 := fun x : Rely.Lat wr.drew => cell_later x.2 (show wr.drew.cell? _ = _ from q1)
            have y2 := fun x : Rely.Lat wr.drew => cell_later x.2 (show wr.drew.cell? _ = _ from b7.1)
            have y3 := fun x : Rely.Lat wr.drew => cell_later x.2 (show wr.drew.cell? _ = _ from b7.2.1)
            have hj3' : (j3 : Int) < (c.length : Int) := by omega
            have he := fun w => eq_lab c[j3].v c[j3].c s3.v s3.c w
            generalize hcv : c[j3].v = cv3 at *
            generalize hcc : c[j3].c = cc3 at *
            by_cases heq : cv3 = s3.v ∧ cc3 = s3.c
            · rw [show decide (cv3 = s3.v ∧ cc3 = s3.c) = true by simpa using heq] at he
              go_wp2_with fail
              refine wp_region_rely 8 (by kernel_rfl) (by kernel_rfl) ?_
              simp only [List.take_succ_cons, List.take_zero]
              generalize World.drew wr = wa at *
              repeat (first
                | (refine wpR_step0 ?_ ?_ (fun K hK => ?_); rfl; rfl; go_simp; refine hK _ ?_; clear hK K))
              refine wpR_nil fun x => ?_
              obtain ⟨wb, wbb⟩ := x
              simp only [close, List.drop_succ_cons, List.drop_zero]
              have hb79 := hdr.trans (wbb.mono hdr.size)
              have hbox9 : wb.heap[b8]? = _ := (hb79.block b8 (Array.getElem?_eq_some_iff.1 hbox7).1).trans hbox7
              have hg59 := grownBy_trans hg57 (grown_of_below hb79 (some b8))
              have b9 := box_cells hbox9
              obtain ⟨nv, hnv⟩ : ∃ n : Nat, s3.v = (n : Int) := ⟨s3.v.toNat, by have := hs7.1; omega⟩
              obtain ⟨nc, hnc⟩ : ∃ n : Nat, s3.c = (n : Int) := ⟨s3.c.toNat, by have := hs7.2.1; omega⟩
              have k0 := b9.1
              have k1 := b9.2.1
              rw [hnv] at k0
              rw [hnc] at k1
              have f0 := Joins.unfrozen_of_block hbox9 0
              have f1 := Joins.unfrozen_of_block hbox9 1
              have hnv3 : nv ≤ 3 := by have := hs7.1; omega
              have hnc3 : nc ≤ 15 := by have := hs7.2.1; omega
              clear y0 y1 y2 y3 he q0 q1
              have hdb : dist y (bumped s3) < dist y s3 := dist_bumped hs7 hy hyn hj3 (by rw [hcv, hcc]; exact heq)
              have hdd : dist y (bumped s3) < dist y s := by rcases hd7 with ⟨_, h⟩ | h <;> omega
              have hdb' : (y + 64 - code (bumped s3).v (bumped s3).c) % 64 < (y + 64 - code s3.v s3.c) % 64 := hdb
              have hlen : 0 < c.length := by omega
              have hd7 := boxDist_of (y := y) hbox7
              go_wp2_with fail
              · rename_i hz
                have hb := bump1 hbox9 hnv hnc hz
                refine ⟨⟨0, bumped s3, hlen, rfl, hb, bumped_ok hs7, grownBy_trans (grownBy_trans hg59 (setCell_grown _ _ _ _)) (setCell_grown _ _ _ _), fun m h h' => absurd h' (Nat.not_lt_zero _), .inr hdd⟩, ?_⟩
                rw [boxDist_of hb, hd7]; exact hdb'
              · rename_i hz
                have hb := bump0 hbox9 hnv hnc hz
                refine ⟨⟨0, bumped s3, hlen, rfl, hb, bumped_ok hs7, grownBy_trans hg59 (setCell_grown _ _ _ _), fun m h h' => absurd h' (Nat.not_lt_zero _), .inr hdd⟩, ?_⟩
                rw [boxDist_of hb, hd7]; exact hdb'
            · rw [show decide (cv3 = s3.v ∧ cc3 = s3.c) = false by simpa using heq] at he
              go_wp2_with fail
              refine wp_region_rely 8 (by kernel_rfl) (by kernel_rfl) ?_
              simp only [List.take_succ_cons, List.take_zero]
              generalize World.drew wr = wa at *
              repeat (first
                | (refine wpR_step0 ?_ ?_ (fun K hK => ?_); rfl; rfl; go_simp; refine hK _ ?_; clear hK K))
              refine wpR_nil fun x => ?_
              obtain ⟨wb, wbb⟩ := x
              simp only [close, List.drop_succ_cons, List.drop_zero]
              have hb79 := hdr.trans (wbb.mono hdr.size)
              have hbox9 : wb.heap[b8]? = _ := (hb79.block b8 (Array.getElem?_eq_some_iff.1 hbox7).1).trans hbox7
              have hg59 := grownBy_trans hg57 (grown_of_below hb79 (some b8))
              have hdist9 := boxDist_of (y := y) hbox9
              go_wp2_with fail
              go_roundw
              case rel =>
                refine ⟨j3 + 1, s3, by omega, by go_num, hbox9, hs7, hg59, fun m h h' => ?_⟩
                rcases Nat.lt_or_ge m j3 with hm | hm
                · exact hap7 m h hm
                · obtain rfl : m = j3 := by omega
                  rw [hcv, hcc]; exact heq
              case measure =>
                simp [intOf]
                rw [hdist6, hdist9]
                exact dist_step hd7 hj3
        · obtain rfl : j = c.length := by omega
          have hcfg6 := (hcfg5.above hcfg hg56 hB8).grown (grown_of_below (below_new _ (.cells s.cells.toArray 54)) (some g)) hgB
          have hpk6 := pk_above hpk hpk5 hg56 hB8
          have hgr6 := grownBy_above hgr5 hg56 hB8
          obtain ⟨i54, hi54, hz54, hs54, hb54⟩ := info_parts info54
          have hbase : w.heap.size ≤ (wr.alloc (.cells s.cells.toArray 54)).heap.size := Nat.le_trans hgr.size (Nat.le_trans hgr6.size (le_new _ _))
          obtain ⟨k0, k1, k2, k3, k4⟩ := box_cells hbox6
          obtain ⟨sv6, sc6, sb6, sl6, sf6⟩ := s
          dsimp only at k0 k1 k2 k3 k4
          go_wp2_with (at_builtin; refine wpList_append_own _ rfl _ _ 45 rfl w.heap.size 54 i54 _ 5 40 Try.underlying45 hi54 hz54 hs54 hb54 rfl (by decide) _ c.length (shCells c) rfl hcfg6.own ⟨wr.heap.size, 0, none⟩ 1 1 (Sh.cells ⟨sv6, sc6, sb6, sl6, sf6⟩) rfl rfl (new_cells wr (Sh.cells ⟨sv6, sc6, sb6, sl6, sf6⟩).toArray _) (oneCell_sh _) (by unfold maxLen; omega) (by omega) hbase ?_)
          intro cv' w7 hown7 hgr7 _
          obtain ⟨hh, hhB, hgr7⟩ := hcfg6.own_grown hgr7
          go_wp2_with fail
          go_roundw
          case rel =>
            refine ⟨c.length + 1, c ++ [⟨sv6, sc6, sb6, sl6, sf6⟩], by omega, by go_num, by simp, hcfg.snoc hown7 hs6 (fun m hm => hap m hm hm), ?_, ?_⟩
            · exact pk_above ⟨_, hp⟩ (hpk6.imp fun n h => h.below (below_new _ _)) hgr7 hhB
            · exact grownBy_above (grownBy_trans (grownBy_trans hgr hgr6) (grown_of_below (below_new _ _) _)) hgr7 hhB
          case measure => simp [intOf]; omega
    · have hkN : c.length = N + 1 := by omega
      have hkN2 : decide ((c.length : Int) < 1 + (N : Int)) = false := by simp; omega
      go_wp2_with fail
      go_ret
      exact ⟨_, c, rfl, hcfg, by omega, by omega, hpk, hgr⟩
end Go.Proofs.Ytojebhpjllkdpaa.Cl
