/- The reference's TakeEntry. -/
import Derived.Test.YtgeiafijibgdhaaEnt6
set_option linter.unusedVariables false
set_option linter.unusedSimpArgs false
namespace Go.Proofs.Ytgeiafijibgdhaa.Cl
open Go Go.Proofs Go.RowKit Fl Rely

def NewNm (B : Nat) (v : Value) (W : World) : Prop := ∃ g, v = .pointer (some ⟨g, 0, none⟩) ∧ B ≤ g ∧ NmAt W g zNm
theorem persist_newNm (B : Nat) : RelyT.Persist (NewNm B) := fun v W W' ⟨g, h1, h2, h3⟩ hb => ⟨g, h1, h2, RowAt.later h3 hb⟩
theorem newNm_fresh (w : World) (B : Nat) (hB : B ≤ w.heap.size) : Below w.heap.size w (w.alloc (.cells #[.int .i64 0, .int .i64 0, .int .u32 0, .string ⟨#[]⟩, .int .i64 0, .int .u32 0] 43)) ∧ NewNm B (.pointer (some ⟨w.heap.size, 0, none⟩)) (w.alloc (.cells #[.int .i64 0, .int .i64 0, .int .u32 0, .string ⟨#[]⟩, .int .i64 0, .int .u32 0] 43)) :=
  ⟨below_new _ _, _, rfl, hB, RowAt.new w 43 (nmA zNm)⟩
set_option maxRecDepth 100000 in
set_option maxHeartbeats 8000000 in
theorem refTakeEntry_any (k : Int) (b : List UInt8) (w : World) (hb56 : b.length = 56) :
    Calls Try.prog 26 #[blkV k b] w fun e w' => e = .returned (nmO k b) ∧ Below w.heap.size w w' := by
  obtain ⟨x0, x1, x2, x3, x4, x5, x6, e7⟩ := take_7 (b.take 7) (by rw [List.length_take, hb56]; rfl)
  have hid : idOf b = takeID [x0, x1, x2, x3, x4, x5, x6] := by unfold idOf; rw [e7]
  have hbt : ∀ i (h : i < 56), b[i]'(by omega) = bt b i := fun i h => by
    unfold bt
    rw [List.getD_eq_getElem?_getD, List.getElem?_eq_getElem (by omega)]
    rfl
  go_enter Try.func26, Try.ntmps26
  go_wp2_with (refine wp_want rfl fun K hK => ?_; refine wp_blk_box rfl rfl hb56 ?_)
  intro w1 B1 b1 s1
  refine hK _ _ ?_
  clear hK K
  go_wp2_with (refine wp_want rfl fun K hK => ?_; refine wp_rw_alloc (P := Try.prog) (t := 43) (nmV zNm) infoNm_zero rfl ?_)
  intro w2 A2 b2 s2
  refine hK _ _ ?_
  clear hK K
  have W : Below w.heap.size w w2 := b1.trans (b2.mono b1.size)
  have B1 := B1.later b2
  have r7 := B1.rd (i := 0) (n := 7) (by decide)
  rw [List.drop_zero, e7] at r7
  have ys := fun w2 => slice_body_all (g := w.heap.size) w2
  have r7' : Rd w2 (.slice (some ⟨w.heap.size, 1, none⟩) 7 56) (bs [x0, x1, x2, x3, x4, x5, x6]) := r7
  go_wp2_with fail
  refine (refTake7_any _ x0 x1 x2 x3 x4 x5 x6 _ r7').mono ?_
  rintro e w5 ⟨rfl, b5⟩
  have htv : takeV [x0, x1, x2, x3, x4, x5, x6] = .tuple #[idv (idOf b).1 (idOf b).2.1 (idOf b).2.2.1, .bool (idOf b).2.2.2] := by unfold takeV; rw [hid]
  rw [htv]
  clear htv hid e7 r7 r7' ys
  have hok := readNm_ok b hb56
  have hbe : goodE k b = ((idOf b).2.2.2 && mayNm (readNm b) && decide (k = 6 ∧ b = entBody (readNm b))) := rfl
  have hrn : readNm b = ⟨(idOf b).1, (idOf b).2.1, (idOf b).2.2.1, (b.drop 14).take (longOf b), idB (bt b 7) (bt b 8), idC (bt b 9) (bt b 10) (bt b 11) (bt b 12)⟩ := rfl
  generalize idOf b = id4 at *
  obtain ⟨A, B, C, ok⟩ := id4
  dsimp only at hbe hrn ⊢
  have Hbe := Lib.hid hbe
  have Hrn := Lib.hid hrn
  clear hbe hrn
  have W := W.trans (b5.mono W.size)
  have B1 := B1.later b5
  have A2 := RowAt.later A2 b5
  go_wp2_with (refine wp_want rfl fun K hK => ?_; refine wp_rw_alloc (P := Try.prog) (t := 41) (idv 0 0 0) infoID_zero rfl ?_)
  intro w6 A6 b6 s6
  refine hK _ _ ?_
  clear hK K
  go_wp2_with (refine wp_want rfl fun K hK => ?_; refine wp_rw_store (P := Try.prog) (cs := #[.int .i64 A, .int .i64 B, .int .u32 C]) A6 infoID_size rfl (idv_all A B C) rfl rfl rfl ?_)
  intro w7 A7 g7 z7
  refine hK _ _ ?_
  clear hK K
  have b7 := below_row b6 g7 b6.size (Nat.le_refl _)
  have W := W.trans (b7.mono W.size)
  have B1 := B1.later b7
  have A2 := RowAt.later A2 b7
  have l2 := A2.lt
  clear A6 b6 s6 g7 z7
  have no : goodE k b = false → ∀ (a : Act) (W' : World), True := fun _ _ _ => trivial
  cases ok
  · have hno := Lib.hid (show goodE k b = false by rw [Hbe.out]; rfl)
    go_wp2_with (refine wp_want rfl fun K hK => ?_; refine wp_rw_store (P := Try.prog) (cs := nmA zNm) A2 infoNm_size rfl (nmA_all _) rfl rfl rfl ?_)
    intro w13 A13 g13 z13
    refine hK _ _ ?_
    clear hK K
    have W := below_row W g13 W.size (by have := b1.size; omega)
    go_wp2_with fail
    refine bodyPost_ret (results_nm2 rfl rfl rfl A13) rfl ⟨?_, W⟩
    unfold nmO
    rw [hno.out]
    rfl
  · have c13 : w7.cell? ⟨w.heap.size, 14, none⟩ = some (u8 (bt b 13)) := by
      have := B1.byte (i := 13) (by omega); rwa [hbt 13 (by decide)] at this
    have hx13 := (bt b 13).toNat_lt
    have hlong : longOf b = min (7 + (bt b 13).toNat) 49 - 7 := rfl
    by_cases h14 : 14 < (bt b 13).toNat
    · have hmn : mayNm (readNm b) = false := by
        rw [Bool.eq_false_iff]
        intro h
        obtain ⟨_, h2, _⟩ := mayNm_facts h
        have h3 := (mayName_len h2).2
        rw [Hrn.out] at h3
        dsimp only at h3
        rw [List.length_take, List.length_drop, hb56] at h3
        omega
      have hno := Lib.hid (show goodE k b = false by rw [Hbe.out, hmn]; rfl)
      have i14 : (14 : Int) < ((bt b 13).toNat : Int) := by omega
      clear hmn h14
      go_wp2_with (refine wp_want rfl fun K hK => ?_; refine wp_rw_store (P := Try.prog) (cs := nmA zNm) A2 infoNm_size rfl (nmA_all _) rfl rfl rfl ?_)
      intro w13 A13 g13 z13
      refine hK _ _ ?_
      clear hK K
      have W := below_row W g13 W.size (by have := b1.size; omega)
      go_wp2_with fail
      refine bodyPost_ret (results_nm2 rfl rfl rfl A13) rfl ⟨?_, W⟩
      unfold nmO
      rw [hno.out]
      rfl
    · have i14 : ¬ (14 : Int) < ((bt b 13).toNat : Int) := by omega
      obtain ⟨m, hm⟩ : ∃ m, m = (bt b 13).toNat := ⟨_, rfl⟩
      obtain ⟨M, hM⟩ : ∃ M, M = 14 + m := ⟨_, rfl⟩
      have r14 := B1.rd (i := 14) (n := M - 14) (by omega)
      have r8 := B1.rd (i := 7) (n := 2) (by decide)
      have r10 := B1.rd (i := 9) (n := 4) (by decide)
      have t8 : (b.drop 7).take 2 = [bt b 7, bt b 8] := by
        rw [← hbt 7 (by decide), ← hbt 8 (by decide), List.drop_eq_getElem_cons (by omega), List.drop_eq_getElem_cons (by omega)]
        rfl
      have t10 : (b.drop 9).take 4 = [bt b 9, bt b 10, bt b 11, bt b 12] := by
        rw [← hbt 9 (by decide), ← hbt 10 (by decide), ← hbt 11 (by decide), ← hbt 12 (by decide), List.drop_eq_getElem_cons (by omega), List.drop_eq_getElem_cons (by omega), List.drop_eq_getElem_cons (by omega), List.drop_eq_getElem_cons (by omega)]
        rfl
      rw [t8] at r8
      rw [t10] at r10
      have r8 : Rd w7 (.slice (some ⟨w.heap.size, 8, none⟩) 2 49) (bs [bt b 7, bt b 8]) := r8
      have r10 : Rd w7 (.slice (some ⟨w.heap.size, 10, none⟩) 4 47) (bs [bt b 9, bt b 10, bt b 11, bt b 12]) := r10
      have r14 : Rd w7 (.slice (some ⟨w.heap.size, 15, none⟩) (M - 14) 42) (bs ((b.drop 14).take (M - 14))) := r14
      have hsx : (b.drop 14).take (longOf b) = (b.drop 14).take (M - 14) := by rw [hlong]; congr 1; omega
      generalize (b.drop 14).take (M - 14) = sx at *
      have Hsx := Lib.hid hsx
      have q1 : 14 ≤ M := by omega
      have q2 : M ≤ 56 := by omega
      have q3 : (14 : Int) ≤ (M : Int) := by omega
      have q4 : (M : Int) ≤ 56 := by omega
      have hMi : IntKind.i64.wrap (14 + IntKind.i64.wrap ((bt b 13).toNat : Int)) = (M : Int) := by
        rw [IntWalk.i64_in ((bt b 13).toNat : Int) (by omega), IntWalk.i64_in _ (by omega)]; omega
      clear t8 t10 hsx hlong hm hM h14 no
      have hdr := (Below.refl w7.heap.size w7).drew
      have n2 := fun (x : RelyT.Lat w7.drew) => num2_any _ (bt b 7) (bt b 8) x.1 ((r8.below hdr).below x.2)
      have n4 := fun (x : RelyT.Lat w7.drew) => num4_any _ (bt b 9) (bt b 10) (bt b 11) (bt b 12) x.1 ((r10.below hdr).below x.2)
      have hsv := fun (x : RelyT.Lat w7.drew) => run_string_of (P := Try.prog) ((r14.below hdr).below x.2) 37 5 9 Try.underlying37 Try.underlying5 Try.underlying9
      have i0 := fun (x : RelyT.Lat w7.drew) => cell_later x.2 (cell_later hdr (A7.cell 0 (.int .i64 A) rfl))
      have i1 := fun (x : RelyT.Lat w7.drew) => cell_later x.2 (cell_later hdr (A7.cell 1 (.int .i64 B) rfl))
      have i2 := fun (x : RelyT.Lat w7.drew) => cell_later x.2 (cell_later hdr (A7.cell 2 (.int .u32 C) rfl))
      have i13 := fun (x : RelyT.Lat w7.drew) => cell_later x.2 (cell_later hdr c13)
      have e1 : IntKind.i64.wrap (idB (bt b 7) (bt b 8)) = idB (bt b 7) (bt b 8) := IntWalk.i64_in _ (by have := (bt b 7).toNat_lt; have := (bt b 8).toNat_lt; unfold idB; omega)
      have e2 : IntKind.u32.wrap (idC (bt b 9) (bt b 10) (bt b 11) (bt b 12)) = idC (bt b 9) (bt b 10) (bt b 11) (bt b 12) := IntWalk.u32_in _ (by have := (bt b 9).toNat_lt; have := (bt b 10).toNat_lt; have := (bt b 11).toNat_lt; have := (bt b 12).toNat_lt; unfold idC; omega)
      generalize idB (bt b 7) (bt b 8) = pp at *
      generalize idC (bt b 9) (bt b 10) (bt b 11) (bt b 12) = gg at *
      go_wp2_with fail
      refine RelyT.wp_region_rely 19 (by kernel_rfl) (by kernel_rfl) ?_
      simp only [List.take_succ_cons, List.take_zero]
      generalize World.drew w7 = wd at *
      repeat (first
        | (refine RelyT.wpR_step0 ?_ ?_ (fun K hK => ?_); rfl; rfl; go_simp; refine hK _ ?_; clear hK K)
        | (refine RelyT.wpR_step0 ?_ ?_ (fun K hK => ?_); rfl; rfl; go_simp; apply Exists.intro; refine ⟨fun x => ?_, hK _ ?_⟩; (first | (with_reducible exact n2 x) | (with_reducible exact n4 x)); clear hK K))
      refine RelyT.wpR_fresh (NewNm wd.heap.size) 7 rfl rfl rfl rfl (of_decide_eq_true rfl) (persist_newNm _) (fun x => ?_) ?_
      · have hal := newNm_fresh x.1 wd.heap.size x.2.size
        (go_simp) <;> exact hal
      repeat (first
        | (refine RelyT.wpR_step0 ?_ ?_ (fun K hK => ?_); rfl; rfl; go_simp; refine hK _ ?_; clear hK K))
      refine RelyT.wpR_nil fun x => ?_
      obtain ⟨we, web⟩ := x
      simp only [RelyT.close, List.drop_succ_cons, List.drop_zero]
      rintro u7 ⟨g', rfl, hg', A'⟩
      have W9 := hdr.trans (web.mono hdr.size)
      have W := W.trans (W9.mono W.size)
      have B1 := B1.later W9
      have A2 := RowAt.later A2 W9
      have lA := A'.lt
      have nd := hdr.size
      clear n2 n4 hsv i0 i1 i2 i13 e1 e2 c13 i14 A7 hMi r14 r8 r10
      have hn : readNm b = ⟨A, B, C, sx, pp, gg⟩ := by rw [Hrn.out, Hsx.out]
      have hbe : goodE k b = (true && mayNm (readNm b) && decide (k = 6 ∧ b = entBody (readNm b))) := Hbe.out
      rw [hn] at hok hbe
      have hP := fun w => refPutEntry_any ⟨A, B, C, sx, pp, gg⟩ w hok
      have hEl := entBody_length ⟨A, B, C, sx, pp, gg⟩
      have hK6 : mayNm ⟨A, B, C, sx, pp, gg⟩ = true → entK ⟨A, B, C, sx, pp, gg⟩ = 6 := fun h => by unfold entK; rw [h]; rfl
      have Hn := Lib.hid hn
      have Hbe := Lib.hid hbe
      clear hn hbe hok q1 q2 q3 q4 hx13 web
      simp only [Act.put, List.setIfInBounds_toArray, List.set_cons_zero, List.set_cons_succ]
      go_wp2_with (refine wp_want rfl fun K hK => ?_; refine wp_rw_store (P := Try.prog) (cs := nmA ⟨A, B, C, sx, pp, gg⟩) A' infoNm_size rfl (nmA_all _) rfl rfl rfl ?_)
      intro w9 A9 g9 z9
      refine hK _ _ ?_
      clear hK K
      have l0 : w.heap.size ≤ w1.heap.size := b1.size
      have A2 := RowAt.grown A2 g9 (by omega)
      have B1 := B1.grown g9 (by omega)
      have W := below_row W g9 W.size (by omega)
      clear A' g9 z9
      go_wp2_with (refine wp_want rfl fun K hK => ?_; refine wp_rw_load (P := Try.prog) A9 Try.underlying43 rfl infoNm_size rfl rfl ?_; refine hK _ _ ?_; clear hK K)
      refine (hP _).mono ?_
      rintro e w11 ⟨rfl, b11⟩
      have W := W.trans (b11.mono W.size)
      have A2 := RowAt.later A2 b11
      have A9 := RowAt.later A9 b11
      have B1 := B1.later b11
      go_wp2_with (refine wp_want rfl fun K hK => ?_; refine wp_blk_alloc rfl ?_)
      intro wf Yf cf sf
      refine hK _ _ ?_
      clear hK K
      go_wp2_with (refine wp_want rfl fun K hK => ?_; refine wp_blk_store rfl rfl rfl hEl Yf ?_)
      intro w12 B12 g12 z12
      refine hK _ _ ?_
      clear hK K
      have df := below_row cf g12 cf.size (Nat.le_refl _)
      have W := W.trans (df.mono W.size)
      have A2 := RowAt.later A2 df
      have A9 := RowAt.later A9 df
      have B1 := B1.later df
      clear Yf cf sf g12 z12 df b11 hP
      cases hmy : mayNm ⟨A, B, C, sx, pp, gg⟩
      · have hno := Lib.hid (show goodE k b = false by rw [Hbe.out, hmy]; rfl)
        clear hmy
        go_wp2_with (refine wp_want rfl fun K hK => ?_; refine wp_rw_store (P := Try.prog) (cs := nmA zNm) A2 infoNm_size rfl (nmA_all _) rfl rfl rfl ?_)
        intro w13 A13 g13 z13
        refine hK _ _ ?_
        clear hK K
        have W := below_row W g13 W.size (by omega)
        go_wp2_with fail
        refine bodyPost_ret (results_nm2 rfl rfl rfl A13) rfl ⟨?_, W⟩
        unfold nmO
        rw [hno.out]
        rfl
      · have hk6 := hK6 hmy
        obtain ⟨r, hr⟩ : ∃ r, decide (entK ⟨A, B, C, sx, pp, gg⟩ = k ∧ entBody ⟨A, B, C, sx, pp, gg⟩ = b) = r := ⟨_, rfl⟩
        have hgr : goodE k b = r := by
          rw [Hbe.out, hmy, ← hr, hk6, Bool.true_and, Bool.true_and, Bool.eq_iff_iff, decide_eq_true_iff, decide_eq_true_iff]
          exact ⟨fun h => ⟨h.1.symm, h.2.symm⟩, fun h => ⟨h.1.symm, h.2.symm⟩⟩
        have Hr := Lib.hid hr
        have hno := Lib.hid hgr
        clear hr hgr hk6 hmy
        cases r
        · skip
          go_wp2_with (refine wp_want rfl fun K hK => ?_; first | (refine wp_blk_load rfl rfl B12 ?_; refine hK _ _ ?_; clear hK K) | (refine wp_blk_load rfl rfl B1 ?_; refine hK _ _ ?_; clear hK K) | (refine wp_blk_neqR false Hr.out rfl rfl rfl hEl hb56 ?_; refine hK _ _ ?_; clear hK K) | refine wp_rw_store (P := Try.prog) (cs := nmA zNm) A2 infoNm_size rfl (nmA_all _) rfl rfl rfl ?_)
          intro w13 A13 g13 z13
          refine hK _ _ ?_
          clear hK K
          have W := below_row W g13 W.size (by omega)
          go_wp2_with fail
          refine bodyPost_ret (results_nm2 rfl rfl rfl A13) rfl ⟨?_, W⟩
          unfold nmO
          rw [hno.out]
          rfl
        · skip
          go_wp2_with (refine wp_want rfl fun K hK => ?_; first | (refine wp_blk_load rfl rfl B12 ?_; refine hK _ _ ?_; clear hK K) | (refine wp_blk_load rfl rfl B1 ?_; refine hK _ _ ?_; clear hK K) | (refine wp_blk_neqR true Hr.out rfl rfl rfl hEl hb56 ?_; refine hK _ _ ?_; clear hK K) | (refine wp_rw_load (P := Try.prog) A9 Try.underlying43 rfl infoNm_size rfl rfl ?_; refine hK _ _ ?_; clear hK K) | refine wp_rw_store (P := Try.prog) (cs := nmA ⟨A, B, C, sx, pp, gg⟩) A2 infoNm_size rfl (nmA_all _) rfl rfl rfl ?_)
          intro w13 A13 g13 z13
          refine hK _ _ ?_
          clear hK K
          have W := below_row W g13 W.size (by omega)
          go_wp2_with fail
          refine bodyPost_ret (results_nm2 rfl rfl rfl A13) rfl ⟨?_, W⟩
          unfold nmO
          rw [hno.out, Hn.out]
          rfl
end Go.Proofs.Ytgeiafijibgdhaa.Cl
