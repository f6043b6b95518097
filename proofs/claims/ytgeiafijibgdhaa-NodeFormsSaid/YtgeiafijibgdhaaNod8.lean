/- The reference's PutNode. -/
import Derived.Test.YtgeiafijibgdhaaNod7
set_option linter.unusedVariables false
set_option linter.unusedSimpArgs false
namespace Go.Proofs.Ytgeiafijibgdhaa.Cl
open Go Go.Proofs Go.RowKit Fl Rely

theorem high2I_any (v : Int) (B : Nat) (w : World) (h0 : 0 ≤ v) (hv : v < 4294967296) (hB : B ≤ w.heap.size) :
    Calls Try.prog 46 #[.int .u64 v, .int .i64 2] w fun e w' => ∃ u, e = .returned u ∧ OB w' B u (be 2 v.toNat) ∧ Below w.heap.size w w' ∧ Below B w w' := by
  obtain ⟨v, rfl⟩ := Int.eq_ofNat_of_zero_le h0
  exact high2_any v B w (by omega) hB
theorem high4I_any (v : Int) (B : Nat) (w : World) (h0 : 0 ≤ v) (hv : v < 4294967296) (hB : B ≤ w.heap.size) :
    Calls Try.prog 46 #[.int .u64 v, .int .i64 4] w fun e w' => ∃ u, e = .returned u ∧ OB w' B u (be 4 v.toNat) ∧ Below w.heap.size w w' ∧ Below B w w' := by
  obtain ⟨v, rfl⟩ := Int.eq_ofNat_of_zero_le h0
  exact high4_any v B w (by omega) hB
theorem nd_place (n : Nd) (k : Nat) (h : k < 5) (h' : k < (placesN n).length) : (ndA n)[3 + k]? = some (.int .i64 (placesN n)[k]) := by
  rcases k with _ | _ | _ | _ | _ | k
  · rfl
  · rfl
  · rfl
  · rfl
  · rfl
  · omega
set_option maxRecDepth 100000 in
set_option maxHeartbeats 4000000 in
theorem refPutNode_any (kind : Int) (n : Nd) (w : World) (ok : NdOk n) :
    Calls Try.prog 17 #[.int .i64 kind, ndV n] w fun e w' => e = .returned (.tuple #[blkV (ndK kind n) (ndBody kind n), .bool (decide (mayN kind n))]) ∧ Below w.heap.size w w' := by
  have hM := fun w => refMayNode_any kind n w ok
  by_cases hm : mayN kind n
  · obtain ⟨⟨hk1, hk3⟩, ⟨hg1, hk0, hk9⟩, ⟨hz0, hz9⟩, hs32, hpl⟩ := mayN_facts hm
    have hg2 := ok.g.2
    have hres : blkV (ndK kind n) (ndBody kind n) = blkV kind (nodB n ++ Z56.drop (nodB n).length) := by unfold ndK ndBody; rw [if_pos hm, if_pos hm]
    rw [hres]
    rw [decide_eq_true hm] at hM ⊢
    have hBl : (nodB n).length ≤ 56 := by rw [nodB_length]; omega
    have hBe : nodB n = headN n ++ atsB (placesN n) ++ be 1 n.s.length ++ n.s := rfl
    have hHe : headN n = be 4 n.g.toNat ++ be 2 n.k.toNat ++ be 4 n.z.toNat := rfl
    have hl5 : (placesN n).length = 5 := rfl
    have hat := nd_place n
    have hx : ∀ h : 4 < (placesN n).length, (placesN n)[4]'h = n.x := fun _ => rfl
    have Hx := Lib.hid hx
    have Hat := Lib.hid hat
    have HBe := Lib.hid hBe
    have HHe := Lib.hid hHe
    have Hpl := Lib.hid hpl
    have Hl5 := Lib.hid hl5
    have Hhl := Lib.hid (headN_length n)
    clear hBe hHe hpl hl5 hres hm hat hx
    have e1 : IntKind.u64.wrap n.g = n.g := IntWalk.u64_in _ (by omega)
    have e2 : IntKind.u64.wrap n.k = n.k := IntWalk.u64_in _ (by omega)
    have e3 : IntKind.u64.wrap n.z = n.z := IntWalk.u64_in _ (by omega)
    generalize nodB n = nb at *
    generalize headN n = hb at *
    go_enter Try.func17, Try.ntmps17
    go_wp2_with (refine wp_want rfl fun K hK => ?_; refine wp_rw_box (P := Try.prog) (t := 25) (ndA n) rfl rfl ?_)
    intro w1 A1 b1 s1
    refine hK _ _ ?_
    clear hK K
    go_wp2_with (refine wp_want rfl fun K hK => ?_; refine wp_blk_alloc rfl ?_)
    intro w2 B2 b2 s2
    refine hK _ _ ?_
    clear hK K
    have W := b1.trans (b2.mono b1.size)
    have A2 := RowAt.later A1 b2
    go_wp2_with (refine wp_want rfl fun K hK => ?_; refine wp_rw_load (P := Try.prog) A2 Try.underlying25 rfl infoNd_size rfl rfl ?_; refine hK _ _ ?_; clear hK K)
    refine (hM _).mono ?_
    rintro e w3 ⟨rfl, b3⟩
    have W := W.trans (b3.mono W.size)
    have B3 := B2.later b3
    have A3 := RowAt.later A2 b3
    have hlt1 : w.heap.size < w1.heap.size := s1
    have hlt2 := B3.lt
    clear A1 A2 B2 b2 b3 s2 hM
    go_upto_region 3 with fail
    have A3d : NdAt w3.drew w.heap.size n := A3.drew
    have W3 : Below w3.heap.size w3 w3.drew := (Below.refl _ _).drew
    refine Zig.wp_region_zig [(false, 0), (false, 1), (false, 2), (false, 4), (false, 5), (false, 6), (false, 9), (false, 10), (false, 11), (true, 3), (true, 7), (true, 8), (true, 12), (true, 13), (false, 14)] (fun W => NdAt W w.heap.size n) (by kernel_rfl) (by kernel_rfl) A3d ?_
    simp only [Zig.sel, List.drop_succ_cons, List.drop_zero]
    generalize World.drew w3 = w4 at *
    haveI : Nonempty (Zig.Lt (fun W => NdAt W w.heap.size n)) := ⟨⟨w4, A3d⟩⟩
    have i0 := fun x : Zig.Lt (fun W => NdAt W w.heap.size n) => RowAt.cell x.2 0 (.int .u32 n.g) rfl
    have i1 := fun x : Zig.Lt (fun W => NdAt W w.heap.size n) => RowAt.cell x.2 1 (.int .i64 n.k) rfl
    have i2 := fun x : Zig.Lt (fun W => NdAt W w.heap.size n) => RowAt.cell x.2 2 (.int .i64 n.z) rfl
    repeat (refine Zig.zig_step (fun K hK => ?_); go_simp; refine hK _ ?_; clear hK K)
    refine Zig.zig_do rfl (fun K hK => ?_)
    unfold Oper.wp
    go_simp
    refine (high4I_any n.g w3.heap.size _ (by omega) hg2 W3.size).mono ?_
    rintro e w5 ⟨u5, rfl, O5, _, b5⟩
    have W5 := W3.trans b5
    have A5 : NdAt w5 w.heap.size n := A3.later W5
    refine hK _ _ A5 ?_
    clear hK K
    refine Zig.zig_do rfl (fun K hK => ?_)
    unfold Oper.wp
    go_simp
    refine (high2I_any n.k w3.heap.size _ hk0 (by omega) W5.size).mono ?_
    rintro e w6 ⟨u6, rfl, O6, b6', b6⟩
    have O56 := OB.below O5 b6'
    have W6 := W5.trans b6
    have A6 : NdAt w6 w.heap.size n := A3.later W6
    refine hK _ _ A6 ?_
    clear hK K
    refine Zig.zig_do rfl (fun K hK => ?_)
    refine wp_appO w3.heap.size _ _ (be 4 n.g.toNat) (be 2 n.k.toNat) (by rw [be_length, be_length]; decide) O56 O6.rd W6.size rfl rfl rfl ?_
    intro u7 w7 O7 t7
    have W7 := W6.trans (t7.below W6.size O56.ge)
    have A7 : NdAt w7 w.heap.size n := A3.later W7
    refine hK _ _ A7 ?_
    clear hK K
    refine Zig.zig_do rfl (fun K hK => ?_)
    unfold Oper.wp
    go_simp
    refine (high4I_any n.z w3.heap.size _ hz0 (by omega) W7.size).mono ?_
    rintro e w8 ⟨u8', rfl, O8, b8', b8⟩
    have O78 := OB.below O7 b8'
    have W8 := W7.trans b8
    have A8 : NdAt w8 w.heap.size n := A3.later W8
    refine hK _ _ A8 ?_
    clear hK K
    refine Zig.zig_do rfl (fun K hK => ?_)
    refine wp_appO w3.heap.size _ _ (be 4 n.g.toNat ++ be 2 n.k.toNat) (be 4 n.z.toNat) (by rw [List.length_append, be_length, be_length, be_length]; decide) O78 O8.rd W8.size rfl rfl rfl ?_
    intro u9 w9 O9 t9
    have W9 := W8.trans (t9.below W8.size O78.ge)
    have A9 : NdAt w9 w.heap.size n := A3.later W9
    refine hK _ _ A9 ?_
    clear hK K
    repeat (refine Zig.zig_step (fun K hK => ?_); go_simp; refine hK _ ?_; clear hK K)
    refine Zig.zig_nil ?_
    rw [← HHe.out] at O9
    clear i0 i1 i2 O5 O56 O6 O7 O78 O8 t7 t9 b5 b6 b8 A5 A6 A7 A8 A3d W3 W5 W6 W7 W8 e1 e2 e3 b6' b8'
    generalize placesN n = pl at *
    go_wp2_with fail
    go_loopw [6, 7] (fun v i wr => ∃ k : Nat, k ≤ 4 ∧ i = .int .i64 (k : Int) ∧ OB wr w3.heap.size v (hb ++ atsB (pl.take k)) ∧ Below w3.heap.size w3 wr) (fun _ i _ => 4 - (intOf i).toNat)
    case atStart => exact ⟨0, by decide, rfl, by simpa [atsB] using O9, W9⟩
    case round =>
      obtain ⟨k, hk, rfl, hO, hW⟩ := hrel
      have A := A3.later hW
      clear O9 W9 A9
      by_cases hlt : k < 4
      · have hlI : (k : Int) < 4 := by omega
        have hkl : k < pl.length := by rw [Hl5.out]; omega
        have hck := A.cell (3 + k) _ (Hat.out k (by omega) hkl)
        have hts := Lib.hid (take_snoc pl k hkl)
        have hp := Hpl.out pl[k] (List.getElem_mem hkl)
        have hlen : (hb ++ atsB (pl.take k)).length ≤ 1000 := by rw [List.length_append, atsB_length, List.length_take, Hhl.out]; omega
        generalize pl[k] = p at *
        obtain ⟨hp1, hp2⟩ := hp
        go_wp2_with fail
        refine (high2I_any (p + 1) w3.heap.size _ (by omega) (by omega) hW.size).mono ?_
        rintro e wq ⟨uq, rfl, Oq, bq', bq⟩
        have hO := OB.below hO bq'
        have Wq := hW.trans bq
        go_wp2_with (refine wp_want rfl fun K hK => ?_; refine wp_appO w3.heap.size _ _ _ (be 2 (p + 1).toNat) (by rw [be_length]; omega) hO Oq.rd Wq.size rfl rfl rfl ?_)
        intro ut wt Ot tt
        refine hK _ _ ?_
        clear hK K
        have Wt := Wq.trans (tt.below Wq.size hO.ge)
        go_wp2_with fail
        go_roundw
        case rel =>
          refine ⟨k + 1, by omega, by go_num, ?_, Wt⟩
          rw [hts.out, atsB_snoc]
          exact Ot
        case measure => simp only [intOf]; omega
      · have hlI : ¬ (k : Int) < 4 := by omega
        have hk4 : k = 4 := by omega
        have h4l : 4 < pl.length := by rw [Hl5.out]; decide
        have hpx : pl[4] = n.x := Hx.out h4l
        have hp := Hpl.out n.x (by rw [← hpx]; exact List.getElem_mem _)
        have hts : pl.take k ++ [n.x] = pl := by
          rw [hk4, ← hpx, ← take_snoc pl 4 h4l]
          exact List.take_of_length_le (by rw [Hl5.out]; exact Nat.le_refl _)
        have hck := A.cell 7 (.int .i64 n.x) rfl
        have hlen : (hb ++ atsB (pl.take k)).length ≤ 1000 := by rw [List.length_append, atsB_length, List.length_take, Hhl.out]; omega
        have Hts := Lib.hid hts
        clear hts hk4 hpx
        generalize n.x = p at *
        obtain ⟨hp1, hp2⟩ := hp
        go_wp2_with fail
        refine (high2I_any (p + 1) w3.heap.size _ (by omega) (by omega) hW.size).mono ?_
        rintro e wq ⟨uq, rfl, Oq, bq', bq⟩
        have hO := OB.below hO bq'
        have Wq := hW.trans bq
        go_wp2_with (refine wp_want rfl fun K hK => ?_; refine wp_appO w3.heap.size _ _ _ (be 2 (p + 1).toNat) (by rw [be_length]; omega) hO Oq.rd Wq.size rfl rfl rfl ?_)
        intro ut wt Ot tt
        refine hK _ _ ?_
        clear hK K
        have Wt := Wq.trans (tt.below Wq.size hO.ge)
        rw [← atsB_snoc, Hts.out] at Ot
        clear Wq bq bq' Oq tt hO hck hlen
        have At := A3.later Wt
        have e3 : IntKind.u8.wrap (n.s.length : Int) = (n.s.length : Int) := by rw [IntKind.wrap_u8]; omega
        have c9 : wt.cell? ⟨w.heap.size, 8, none⟩ = some (str n.s) := At.cell 8 (str n.s) rfl
        have hdr := (Below.refl wt.heap.size wt).drew
        have c9d := cell_later hdr c9
        have hbyte := new_u8 (b := UInt8.ofNat n.s.length) (x := (n.s.length : Int)) (by rw [UInt8.toNat_ofNat']; omega)
        have hbe1 : be 1 n.s.length = [UInt8.ofNat n.s.length] := by simp [be]
        rw [← hbe1] at hbyte
        clear hbe1
        go_upto_region 9 with fail
        refine Zig.wp_region_zig [(false, 0), (false, 1), (false, 2), (false, 3), (false, 4), (false, 5), (false, 8), (false, 9), (true, 6), (true, 7), (true, 10), (true, 11), (true, 12), (false, 13)] (fun W => W.cell? ⟨w.heap.size, 8, none⟩ = some (str n.s)) (by kernel_rfl) (by kernel_rfl) c9d ?_
        simp only [Zig.sel, List.drop_succ_cons, List.drop_zero]
        generalize World.drew wt = wa at *
        haveI : Nonempty (Zig.Lt (fun W => W.cell? ⟨w.heap.size, 8, none⟩ = some (str n.s))) := ⟨⟨wa, c9d⟩⟩
        have i3 := fun x : Zig.Lt (fun W => W.cell? ⟨w.heap.size, 8, none⟩ = some (str n.s)) => x.2
        repeat (refine Zig.zig_step (fun K hK => ?_); go_simp; refine hK _ ?_; clear hK K)
        refine Zig.zig_do rfl (fun K hK => ?_)
        unfold Oper.wp
        go_simp
        refine hK _ _ (cell_later (below_new wa _) c9d) ?_
        clear hK K
        refine Zig.zig_do rfl (fun K hK => ?_)
        refine wp_appO w3.heap.size _ _ (hb ++ atsB pl) (be 1 n.s.length) (by rw [List.length_append, Hhl.out, be_length, atsB_length, Hl5.out]; decide) ((OB.below Ot hdr).below (below_new wa _)) (hbyte wa) (Nat.le_trans (Nat.le_trans Wt.size hdr.size) (le_new wa _)) rfl rfl rfl ?_
        intro ub wb Ob tb
        have bb := (Wt.trans (hdr.mono Wt.size)).trans (((below_new wa (.cells #[.int .u8 (n.s.length : Int)] 5)).mono (Nat.le_trans Wt.size hdr.size)))
        have bb := bb.trans (tb.below bb.size (fun k hk => OB.ge Ot k hk))
        have cb : wb.cell? ⟨w.heap.size, 8, none⟩ = some (str n.s) := RowAt.cell (RowAt.later A3 bb) 8 (str n.s) rfl
        refine hK _ _ cb ?_
        clear hK K
        refine Zig.zig_do rfl (fun K hK => ?_)
        refine wp_app_str w3.heap.size _ _ n.s (by rw [List.length_append, List.length_append, Hhl.out, be_length, atsB_length, Hl5.out]; omega) Ob bb.size rfl rfl rfl ?_
        intro uc wc Oc gc
        have bc := bb.grown gc bb.size (fun k hk => OB.ge Ob k hk)
        have cc : wc.cell? ⟨w.heap.size, 8, none⟩ = some (str n.s) := RowAt.cell (RowAt.later A3 bc) 8 (str n.s) rfl
        refine hK _ _ cc ?_
        clear hK K
        rw [← HBe.out] at Oc
        refine Zig.zig_do rfl (fun K hK => ?_)
        unfold Oper.wp
        go_simp
        refine (body_any kind _ nb _ Oc.rd hBl).mono ?_
        rintro e wd ⟨rfl, bd⟩
        have bd' := bc.trans (bd.mono bc.size)
        have cd : wd.cell? ⟨w.heap.size, 8, none⟩ = some (str n.s) := RowAt.cell (RowAt.later A3 bd') 8 (str n.s) rfl
        refine hK _ _ cd ?_
        clear hK K
        have Bd := B3.later bd'
        have W := W.trans (bd'.mono W.size)
        have heb56 : (nb ++ Z56.drop nb.length).length = 56 := by rw [List.length_append, List.length_drop, Z56_length]; omega
        refine Zig.zig_do rfl (fun K hK => ?_)
        refine wp_blk_store rfl rfl rfl heb56 Bd ?_
        intro we Be ge ze
        have ce : we.cell? ⟨w.heap.size, 8, none⟩ = some (str n.s) := RowAt.cell (RowAt.grown (RowAt.later A3 bd') ge (by omega)) 8 (str n.s) rfl
        refine hK _ _ ce ?_
        clear hK K
        have W := below_row W ge W.size (by omega)
        repeat (refine Zig.zig_step (fun K hK => ?_); go_simp; refine hK _ ?_; clear hK K)
        refine Zig.zig_nil ?_
        go_wp2_with fail
        refine bodyPost_ret (results_blk2 rfl rfl rfl Be) rfl ⟨rfl, W⟩
  · have hres : blkV (ndK kind n) (ndBody kind n) = blkV 0 Z56 := by unfold ndK ndBody; rw [if_neg hm, if_neg hm]
    rw [hres]
    rw [decide_eq_false hm] at hM ⊢
    clear hres hm
    go_enter Try.func17, Try.ntmps17
    go_wp2_with (refine wp_want rfl fun K hK => ?_; refine wp_rw_box (P := Try.prog) (t := 25) (ndA n) rfl rfl ?_)
    intro w1 A1 b1 s1
    refine hK _ _ ?_
    clear hK K
    go_wp2_with (refine wp_want rfl fun K hK => ?_; refine wp_blk_alloc rfl ?_)
    intro w2 B2 b2 s2
    refine hK _ _ ?_
    clear hK K
    have W := b1.trans (b2.mono b1.size)
    have A2 := RowAt.later A1 b2
    go_wp2_with (refine wp_want rfl fun K hK => ?_; refine wp_rw_load (P := Try.prog) A2 Try.underlying25 rfl infoNd_size rfl rfl ?_; refine hK _ _ ?_; clear hK K)
    refine (hM _).mono ?_
    rintro e w3 ⟨rfl, b3⟩
    have W := W.trans (b3.mono W.size)
    have B3 := B2.later b3
    go_wp2_with (refine wp_want rfl fun K hK => ?_; first | (refine wp_blk_build0 rfl ?_; refine hK _ _ ?_; clear hK K) | refine wp_blk_store rfl rfl rfl Z56_length B3 ?_)
    intro w4 B4 g4 z4
    refine hK _ _ ?_
    clear hK K
    have W := below_row W g4 W.size (by have := b1.size; omega)
    go_wp2_with fail
    refine bodyPost_ret (results_blk2 rfl rfl rfl B4) rfl ⟨rfl, W⟩
end Go.Proofs.Ytgeiafijibgdhaa.Cl
