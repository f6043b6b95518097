/- The law EntryForms. -/
import Derived.Test.YtgeiafijibgdhaaEntB
set_option linter.unusedVariables false
set_option linter.unusedSimpArgs false
namespace Go.Proofs.Ytgeiafijibgdhaa.Cl
open Go Go.Proofs Go.RowKit Fl Rely

def s14 : List UInt8 := [102, 111, 117, 114, 116, 101, 101, 110, 45, 98, 121, 116, 101, 115]
def n1 : Nm := ⟨1, 2, 3, s14, 158, 258⟩
def nx : Nm := ⟨0, 0, 0, s14, 158, 258⟩
def ny : Nm := ⟨1, 2, 3, s14, 0, 258⟩
def nz : Nm := ⟨1, 2, 3, s14, 158, 0⟩
def badN : List (List UInt8) := [[], [46], [46, 46], [97, 47, 98], [97, 32, 98], [127], [102, 105, 102, 116, 101, 101, 110, 45, 98, 121, 116, 101, 115, 45, 120], [195, 164]]
theorem badN_no : ∀ k (h : k < badN.length), mayName badN[k] = false := by decide +kernel
theorem badN_le : ∀ k (h : k < badN.length), badN[k].length ≤ 20 := by decide +kernel
theorem n1_28 : (entBody n1).take 28 = [1, 0, 2, 0, 0, 0, 3, 0, 158, 0, 0, 1, 2, 14] ++ s14 := by decide +kernel
theorem badN_cell (w : World) (j : Nat) (h : j < badN.length) : (w.alloc (.cells (badN.map str).toArray 9)).cell? ⟨w.heap.size, j, none⟩ = some (str badN[j]) := by
  refine RowAt.cell (RowAt.new w _ _) j _ ?_
  rw [List.getElem?_toArray, List.getElem?_map, List.getElem?_eq_getElem h]
  rfl
set_option maxRecDepth 100000 in
set_option maxHeartbeats 8000000 in
theorem entForms_law (w : World) : Calls Try.prog 8 #[] w fun e w' => e = .returned (.bool true) ∧ Below w.heap.size w w' := by
  have hB := entBegun_any
  have hm : mayNm n1 = true := by decide +kernel
  have ok1 : NmOk n1 := ⟨by decide, by decide, by decide, by decide, by decide, by decide⟩
  have okx : NmOk nx := ⟨by decide, by decide, by decide, by decide, by decide, by decide⟩
  have oky : NmOk ny := ⟨by decide, by decide, by decide, by decide, by decide, by decide⟩
  have okz : NmOk nz := ⟨by decide, by decide, by decide, by decide, by decide, by decide⟩
  have hP := fun w => entPut_any n1 w ok1
  rw [hm, show entK n1 = 6 by unfold entK; rw [hm]; rfl] at hP
  have hMx := fun w => entMay_any nx w okx
  have hMy := fun w => entMay_any ny w oky
  have hMz := fun w => entMay_any nz w okz
  rw [show mayNm nx = false by decide +kernel] at hMx
  rw [show mayNm ny = false by decide +kernel] at hMy
  rw [show mayNm nz = false by decide +kernel] at hMz
  have h1 := fun w => mayName_any [46, 46, 46] w (by decide)
  have h2 := fun w => mayName_any [33, 126] w (by decide)
  rw [show mayName [46, 46, 46] = true by decide +kernel] at h1
  rw [show mayName [33, 126] = true by decide +kernel] at h2
  have hl := entBody_length n1
  have h28 := n1_28
  clear hm ok1 okx oky okz
  generalize entBody n1 = bb at *
  go_enter Try.func8, Try.ntmps8
  go_wp2_with fail
  refine (hB _).mono ?_
  rintro e w1 ⟨rfl, b1⟩
  have W := b1
  clear b1
  have n1' := W.size
  go_wp2_with fail
  go_loopw [2] (fun i wr => ∃ k : Nat, k ≤ 8 ∧ i = .int .i64 (k : Int) ∧ (∀ j (h : j < badN.length), wr.cell? ⟨w1.heap.size, j, none⟩ = some (str badN[j])) ∧ Below w1.heap.size w1 wr) (fun i _ => 8 - (intOf i).toNat)
  case atStart => exact ⟨0, Nat.zero_le _, rfl, fun j h => badN_cell w1 j h, below_new _ _⟩
  case round =>
    obtain ⟨k, hk, rfl, hc, hb⟩ := hrel
    by_cases hlt : k < 8
    · have hlI : (k : Int) < 8 := by omega
      have hkb : k < badN.length := hlt
      have hck := hc k hkb
      have hno := badN_no k hkb
      have hle := badN_le k hkb
      obtain ⟨s, hs⟩ : ∃ s, s = badN[k] := ⟨_, rfl⟩
      rw [← hs] at hck hno hle
      have hN := fun w => mayName_any s w (by omega)
      rw [hno] at hN
      have okk : NmOk ⟨-1, 0, 0, s, 1, 1⟩ := ⟨by dsimp only; omega, by dsimp only; omega, by dsimp only; omega, by dsimp only; omega, by dsimp only; omega, by dsimp only; omega⟩
      have hM := fun w => entMay_any ⟨-1, 0, 0, s, 1, 1⟩ w okk
      rw [show mayNm ⟨-1, 0, 0, s, 1, 1⟩ = false by unfold mayNm; dsimp only; rw [hno]; simp] at hM
      clear hs hno okk
      go_wp2_with fail
      have hdr := (Below.refl wr.heap.size wr).drew
      have hcx := fun x : Lat wr.drew => cell_later x.2 (cell_later hdr hck)
      refine wp_region_rely 14 (by kernel_rfl) (by kernel_rfl) ?_
      simp only [List.take_succ_cons, List.take_zero]
      generalize World.drew wr = wd at *
      repeat (first
        | (refine wpR_step0 ?_ ?_ (fun K hK => ?_); rfl; rfl; go_simp; refine hK _ ?_; clear hK K)
        | (refine wpR_step0 ?_ ?_ (fun K hK => ?_); rfl; rfl; go_simp; apply Exists.intro; refine ⟨fun x => ?_, hK _ ?_⟩; (first | (exact hN _) | (exact refRoot_any _) | (exact hM _)); clear hK K))
      refine wpR_nil fun x => ?_
      obtain ⟨w5, w5b⟩ := x
      simp only [close, List.drop_succ_cons, List.drop_zero]
      have hb5 := (hb.trans (hdr.mono hb.size)).trans (w5b.mono (Nat.le_trans hb.size hdr.size))
      go_wp2_with fail
      go_roundw
      case rel => exact ⟨k + 1, by omega, by go_num, fun j h => cell_later w5b (cell_later hdr (hc j h)), hb5⟩
      case measure => simp only [intOf]; omega
    · have hlI : ¬ (k : Int) < 8 := by omega
      have W := W.trans (hb.mono n1')
      clear hc hb hk hlt
      have nnA := W.size
      go_wp2_with (refine wp_want rfl fun K hK => ?_; first | refine wp_rw_alloc (P := Try.prog) (t := 43) (nmV zNm) infoNm_zero rfl ?_)
      intro w2 Y2 c2 s2
      refine hK _ _ ?_
      clear hK K
      go_wp2_with (refine wp_want rfl fun K hK => ?_; first | refine wp_rw_store (P := Try.prog) (cs := nmA n1) Y2 infoNm_size rfl (nmA_all _) rfl rfl rfl ?_)
      intro w3 Z3 g3 z3
      refine hK _ _ ?_
      clear hK K
      have d3 := below_row c2 g3 c2.size (Nat.le_refl _)
      have W := W.trans (d3.mono W.size)
      have A := Z3
      clear Y2 c2 s2 Z3 g3 z3 d3
      go_wp2_with (refine wp_want rfl fun K hK => ?_; first | (refine wp_rw_load (P := Try.prog) A Try.underlying43 rfl infoNm_size rfl rfl ?_; refine hK _ _ ?_; clear hK K))
      refine (hP _).mono ?_
      rintro e w4 ⟨rfl, b4⟩
      have A := RowAt.later A b4
      have W := W.trans (b4.mono W.size)
      clear b4
      have nnB := W.size
      go_wp2_with (refine wp_want rfl fun K hK => ?_; first | (refine wp_rw_load (P := Try.prog) A Try.underlying43 rfl infoNm_size rfl rfl ?_; refine hK _ _ ?_; clear hK K) | refine wp_blk_alloc rfl ?_)
      intro w5 Y5 c5 s5
      refine hK _ _ ?_
      clear hK K
      go_wp2_with (refine wp_want rfl fun K hK => ?_; first | (refine wp_rw_load (P := Try.prog) A Try.underlying43 rfl infoNm_size rfl rfl ?_; refine hK _ _ ?_; clear hK K) | refine wp_blk_store rfl rfl rfl hl Y5 ?_)
      intro w6 Z6 g6 z6
      refine hK _ _ ?_
      clear hK K
      have d6 := below_row c5 g6 c5.size (Nat.le_refl _)
      have lBA := RowAt.lt A
      have A := RowAt.later A d6
      have W := W.trans (d6.mono W.size)
      have B := Z6
      clear Y5 c5 s5 Z6 g6 z6 d6
      have nnX := W.size
      go_wp2_with (refine wp_want rfl fun K hK => ?_; first | (refine wp_rw_load (P := Try.prog) A Try.underlying43 rfl infoNm_size rfl rfl ?_; refine hK _ _ ?_; clear hK K) | (refine wp_blk_load rfl rfl B ?_; refine hK _ _ ?_; clear hK K) | refine wp_rw_alloc (P := Try.prog) (t := 43) (nmV zNm) infoNm_zero rfl ?_)
      intro w7 Y7 c7 s7
      refine hK _ _ ?_
      clear hK K
      go_wp2_with (refine wp_want rfl fun K hK => ?_; first | (refine wp_rw_load (P := Try.prog) A Try.underlying43 rfl infoNm_size rfl rfl ?_; refine hK _ _ ?_; clear hK K) | (refine wp_blk_load rfl rfl B ?_; refine hK _ _ ?_; clear hK K) | refine wp_rw_store (P := Try.prog) (cs := nmA n1) Y7 infoNm_size rfl (nmA_all _) rfl rfl rfl ?_)
      intro w8 Z8 g8 z8
      refine hK _ _ ?_
      clear hK K
      have d8 := below_row c7 g8 c7.size (Nat.le_refl _)
      have lXA := RowAt.lt A
      have lXB := B.lt
      have A := RowAt.later A d8
      have B := B.later d8
      have W := W.trans (d8.mono W.size)
      have X := Z8
      clear Y7 c7 s7 Z8 g8 z8 d8
      have q0 := X
      have u0 := RowAt.cell q0 0 _ rfl
      have v0 := RowAt.frozen q0 (i := 0)
      obtain ⟨q1, g0, z0⟩ := RowAt.set q0 0 (.int .i64 0)
      have u1 := RowAt.cell q1 1 _ rfl
      have v1 := RowAt.frozen q1 (i := 1)
      obtain ⟨q2, g1, z1⟩ := RowAt.set q1 1 (.int .i64 0)
      have u2 := RowAt.cell q2 2 _ rfl
      have v2 := RowAt.frozen q2 (i := 2)
      obtain ⟨q3, g2, z2⟩ := RowAt.set q2 2 (.int .u32 0)
      go_upto_region 13 with fail
      have A := (RowAt.grown (RowAt.grown (RowAt.grown A g0 (by omega)) g1 (by omega)) g2 (by omega))
      have B := (((B.grown g0 (by omega)).grown g1 (by omega)).grown g2 (by omega))
      have W := (below_row (below_row (below_row W g0 (by have := W.size; omega) (by omega)) g1 (by have := W.size; omega) (by omega)) g2 (by have := W.size; omega) (by omega))
      have X : NmAt _ _ nx := q3
      generalize (World.setCell (World.setCell (World.setCell w8 ⟨w6.heap.size, 0, none⟩ (.int .i64 0)) ⟨w6.heap.size, 1, none⟩ (.int .i64 0)) ⟨w6.heap.size, 2, none⟩ (.int .u32 0)) = w9 at *
      clear u0 v0 g0 z0 u1 v1 g1 z1 u2 v2 g2 z2 q0 q1 q2 q3
      have nnY := W.size
      go_wp2_with (refine wp_want rfl fun K hK => ?_; first | (refine wp_rw_load (P := Try.prog) A Try.underlying43 rfl infoNm_size rfl rfl ?_; refine hK _ _ ?_; clear hK K) | (refine wp_blk_load rfl rfl B ?_; refine hK _ _ ?_; clear hK K) | (refine wp_rw_load (P := Try.prog) X Try.underlying43 rfl infoNm_size rfl rfl ?_; refine hK _ _ ?_; clear hK K) | refine wp_rw_alloc (P := Try.prog) (t := 43) (nmV zNm) infoNm_zero rfl ?_)
      intro w10 Y10 c10 s10
      refine hK _ _ ?_
      clear hK K
      go_wp2_with (refine wp_want rfl fun K hK => ?_; first | (refine wp_rw_load (P := Try.prog) A Try.underlying43 rfl infoNm_size rfl rfl ?_; refine hK _ _ ?_; clear hK K) | (refine wp_blk_load rfl rfl B ?_; refine hK _ _ ?_; clear hK K) | (refine wp_rw_load (P := Try.prog) X Try.underlying43 rfl infoNm_size rfl rfl ?_; refine hK _ _ ?_; clear hK K) | refine wp_rw_store (P := Try.prog) (cs := nmA n1) Y10 infoNm_size rfl (nmA_all _) rfl rfl rfl ?_)
      intro w11 Z11 g11 z11
      refine hK _ _ ?_
      clear hK K
      have d11 := below_row c10 g11 c10.size (Nat.le_refl _)
      have lYA := RowAt.lt A
      have lYB := B.lt
      have lYX := RowAt.lt X
      have A := RowAt.later A d11
      have B := B.later d11
      have X := RowAt.later X d11
      have W := W.trans (d11.mono W.size)
      have Y := Z11
      clear Y10 c10 s10 Z11 g11 z11 d11
      have q0 := Y
      have u0 := RowAt.cell q0 4 _ rfl
      have v0 := RowAt.frozen q0 (i := 4)
      obtain ⟨q1, g0, z0⟩ := RowAt.set q0 4 (.int .i64 0)
      go_upto_region 15 with fail
      have A := (RowAt.grown A g0 (by omega))
      have B := (B.grown g0 (by omega))
      have X := (RowAt.grown X g0 (by omega))
      have W := (below_row W g0 (by have := W.size; omega) (by omega))
      have Y : NmAt _ _ ny := q1
      generalize (World.setCell w11 ⟨w9.heap.size, 4, none⟩ (.int .i64 0)) = w12 at *
      clear u0 v0 g0 z0 q0 q1
      have nnZ := W.size
      go_wp2_with (refine wp_want rfl fun K hK => ?_; first | (refine wp_rw_load (P := Try.prog) A Try.underlying43 rfl infoNm_size rfl rfl ?_; refine hK _ _ ?_; clear hK K) | (refine wp_blk_load rfl rfl B ?_; refine hK _ _ ?_; clear hK K) | (refine wp_rw_load (P := Try.prog) X Try.underlying43 rfl infoNm_size rfl rfl ?_; refine hK _ _ ?_; clear hK K) | (refine wp_rw_load (P := Try.prog) Y Try.underlying43 rfl infoNm_size rfl rfl ?_; refine hK _ _ ?_; clear hK K) | refine wp_rw_alloc (P := Try.prog) (t := 43) (nmV zNm) infoNm_zero rfl ?_)
      intro w13 Y13 c13 s13
      refine hK _ _ ?_
      clear hK K
      go_wp2_with (refine wp_want rfl fun K hK => ?_; first | (refine wp_rw_load (P := Try.prog) A Try.underlying43 rfl infoNm_size rfl rfl ?_; refine hK _ _ ?_; clear hK K) | (refine wp_blk_load rfl rfl B ?_; refine hK _ _ ?_; clear hK K) | (refine wp_rw_load (P := Try.prog) X Try.underlying43 rfl infoNm_size rfl rfl ?_; refine hK _ _ ?_; clear hK K) | (refine wp_rw_load (P := Try.prog) Y Try.underlying43 rfl infoNm_size rfl rfl ?_; refine hK _ _ ?_; clear hK K) | refine wp_rw_store (P := Try.prog) (cs := nmA n1) Y13 infoNm_size rfl (nmA_all _) rfl rfl rfl ?_)
      intro w14 Z14 g14 z14
      refine hK _ _ ?_
      clear hK K
      have d14 := below_row c13 g14 c13.size (Nat.le_refl _)
      have lZA := RowAt.lt A
      have lZB := B.lt
      have lZX := RowAt.lt X
      have lZY := RowAt.lt Y
      have A := RowAt.later A d14
      have B := B.later d14
      have X := RowAt.later X d14
      have Y := RowAt.later Y d14
      have W := W.trans (d14.mono W.size)
      have Z := Z14
      clear Y13 c13 s13 Z14 g14 z14 d14
      have q0 := Z
      have u0 := RowAt.cell q0 5 _ rfl
      have v0 := RowAt.frozen q0 (i := 5)
      obtain ⟨q1, g0, z0⟩ := RowAt.set q0 5 (.int .u32 0)
      go_upto_region 17 with fail
      have A := (RowAt.grown A g0 (by omega))
      have B := (B.grown g0 (by omega))
      have X := (RowAt.grown X g0 (by omega))
      have Y := (RowAt.grown Y g0 (by omega))
      have W := (below_row W g0 (by have := W.size; omega) (by omega))
      have Z : NmAt _ _ nz := q1
      generalize (World.setCell w14 ⟨w12.heap.size, 5, none⟩ (.int .u32 0)) = w15 at *
      clear u0 v0 g0 z0 q0 q1
      go_wp2_with (refine wp_want rfl fun K hK => ?_; first | (refine wp_rw_load (P := Try.prog) A Try.underlying43 rfl infoNm_size rfl rfl ?_; refine hK _ _ ?_; clear hK K) | (refine wp_blk_load rfl rfl B ?_; refine hK _ _ ?_; clear hK K) | (refine wp_rw_load (P := Try.prog) X Try.underlying43 rfl infoNm_size rfl rfl ?_; refine hK _ _ ?_; clear hK K) | (refine wp_rw_load (P := Try.prog) Y Try.underlying43 rfl infoNm_size rfl rfl ?_; refine hK _ _ ?_; clear hK K) | (refine wp_rw_load (P := Try.prog) Z Try.underlying43 rfl infoNm_size rfl rfl ?_; refine hK _ _ ?_; clear hK K))
      refine (h1 _).mono ?_
      rintro e w16 ⟨rfl, b16⟩
      have A := RowAt.later A b16
      have B := B.later b16
      have X := RowAt.later X b16
      have Y := RowAt.later Y b16
      have Z := RowAt.later Z b16
      have W := W.trans (b16.mono W.size)
      clear b16
      go_wp2_with (refine wp_want rfl fun K hK => ?_; first | (refine wp_rw_load (P := Try.prog) A Try.underlying43 rfl infoNm_size rfl rfl ?_; refine hK _ _ ?_; clear hK K) | (refine wp_blk_load rfl rfl B ?_; refine hK _ _ ?_; clear hK K) | (refine wp_rw_load (P := Try.prog) X Try.underlying43 rfl infoNm_size rfl rfl ?_; refine hK _ _ ?_; clear hK K) | (refine wp_rw_load (P := Try.prog) Y Try.underlying43 rfl infoNm_size rfl rfl ?_; refine hK _ _ ?_; clear hK K) | (refine wp_rw_load (P := Try.prog) Z Try.underlying43 rfl infoNm_size rfl rfl ?_; refine hK _ _ ?_; clear hK K))
      refine (h2 _).mono ?_
      rintro e w17 ⟨rfl, b17⟩
      have A := RowAt.later A b17
      have B := B.later b17
      have X := RowAt.later X b17
      have Y := RowAt.later Y b17
      have Z := RowAt.later Z b17
      have W := W.trans (b17.mono W.size)
      clear b17
      have y28 := fun w2 => slice_body_to (g := w4.heap.size) (n := 28) (by decide) 28 rfl w2
      have r28 := B.rd (i := 0) (n := 28) (by decide)
      rw [List.drop_zero, h28] at r28
      have hs := run_string_of (P := Try.prog) r28 37 5 9 Try.underlying37 Try.underlying5 Try.underlying9
      clear r28
      go_wp2_with (refine wp_want rfl fun K hK => ?_; first | (refine wp_rw_load (P := Try.prog) A Try.underlying43 rfl infoNm_size rfl rfl ?_; refine hK _ _ ?_; clear hK K) | (refine wp_blk_load rfl rfl B ?_; refine hK _ _ ?_; clear hK K) | (refine wp_rw_load (P := Try.prog) X Try.underlying43 rfl infoNm_size rfl rfl ?_; refine hK _ _ ?_; clear hK K) | (refine wp_rw_load (P := Try.prog) Y Try.underlying43 rfl infoNm_size rfl rfl ?_; refine hK _ _ ?_; clear hK K) | (refine wp_rw_load (P := Try.prog) Z Try.underlying43 rfl infoNm_size rfl rfl ?_; refine hK _ _ ?_; clear hK K))
      refine (hMx _).mono ?_
      rintro e w18 ⟨rfl, b18⟩
      have A := RowAt.later A b18
      have B := B.later b18
      have X := RowAt.later X b18
      have Y := RowAt.later Y b18
      have Z := RowAt.later Z b18
      have W := W.trans (b18.mono W.size)
      clear b18
      clear hs y28
      go_wp2_with (refine wp_want rfl fun K hK => ?_; first | (refine wp_rw_load (P := Try.prog) A Try.underlying43 rfl infoNm_size rfl rfl ?_; refine hK _ _ ?_; clear hK K) | (refine wp_blk_load rfl rfl B ?_; refine hK _ _ ?_; clear hK K) | (refine wp_rw_load (P := Try.prog) X Try.underlying43 rfl infoNm_size rfl rfl ?_; refine hK _ _ ?_; clear hK K) | (refine wp_rw_load (P := Try.prog) Y Try.underlying43 rfl infoNm_size rfl rfl ?_; refine hK _ _ ?_; clear hK K) | (refine wp_rw_load (P := Try.prog) Z Try.underlying43 rfl infoNm_size rfl rfl ?_; refine hK _ _ ?_; clear hK K))
      refine (hMy _).mono ?_
      rintro e w19 ⟨rfl, b19⟩
      have A := RowAt.later A b19
      have B := B.later b19
      have X := RowAt.later X b19
      have Y := RowAt.later Y b19
      have Z := RowAt.later Z b19
      have W := W.trans (b19.mono W.size)
      clear b19
      go_wp2_with (refine wp_want rfl fun K hK => ?_; first | (refine wp_rw_load (P := Try.prog) A Try.underlying43 rfl infoNm_size rfl rfl ?_; refine hK _ _ ?_; clear hK K) | (refine wp_blk_load rfl rfl B ?_; refine hK _ _ ?_; clear hK K) | (refine wp_rw_load (P := Try.prog) X Try.underlying43 rfl infoNm_size rfl rfl ?_; refine hK _ _ ?_; clear hK K) | (refine wp_rw_load (P := Try.prog) Y Try.underlying43 rfl infoNm_size rfl rfl ?_; refine hK _ _ ?_; clear hK K) | (refine wp_rw_load (P := Try.prog) Z Try.underlying43 rfl infoNm_size rfl rfl ?_; refine hK _ _ ?_; clear hK K))
      refine (hMz _).mono ?_
      rintro e w20 ⟨rfl, b20⟩
      have A := RowAt.later A b20
      have B := B.later b20
      have X := RowAt.later X b20
      have Y := RowAt.later Y b20
      have Z := RowAt.later Z b20
      have W := W.trans (b20.mono W.size)
      clear b20
      go_wp2_with (refine wp_want rfl fun K hK => ?_; first | (refine wp_rw_load (P := Try.prog) A Try.underlying43 rfl infoNm_size rfl rfl ?_; refine hK _ _ ?_; clear hK K) | (refine wp_blk_load rfl rfl B ?_; refine hK _ _ ?_; clear hK K) | (refine wp_rw_load (P := Try.prog) X Try.underlying43 rfl infoNm_size rfl rfl ?_; refine hK _ _ ?_; clear hK K) | (refine wp_rw_load (P := Try.prog) Y Try.underlying43 rfl infoNm_size rfl rfl ?_; refine hK _ _ ?_; clear hK K) | (refine wp_rw_load (P := Try.prog) Z Try.underlying43 rfl infoNm_size rfl rfl ?_; refine hK _ _ ?_; clear hK K))
      go_ret
      exact ⟨rfl, W⟩
end Go.Proofs.Ytgeiafijibgdhaa.Cl
