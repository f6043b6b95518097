/- The law RecForms. -/
import Derived.Test.YtgeiafijibgdhaaRecF2
set_option linter.unusedVariables false
set_option linter.unusedSimpArgs false
namespace Go.Proofs.Ytgeiafijibgdhaa.Cl
open Go Go.Proofs Go.RowKit Fl Rely

set_option maxRecDepth 100000 in
set_option maxHeartbeats 8000000 in
theorem recForms_law (w : World) :
    Calls Try.prog 13 #[] w fun e w' => e = .returned (.bool true) ∧ Below w.heap.size w w' := by
  have e33 : u8 33 = .int .u8 33 := rfl
  have e0 : u8 0 = .int .u8 0 := rfl
  have hP9 := fun v w hv => recPut_any 33 16909060 84281096 v [W9] w (by decide) (by decide) (by decide) (by intro x hx; obtain rfl := List.mem_singleton.1 hx; exact W9_ok) hv
  have hP := fun v l w hl ho hv => recPut_any 0 1 0 v l w (by decide) (by decide) hl ho hv
  have hA := fun w => anchor_any 33 258 w (by decide)
  have hA64 := anchorB_length 33 258
  have hA8 := fa_head
  generalize anchorB 33 258 = la at *
  rw [e33] at hP9 hA
  rw [e0] at hP
  have hL2 := f9_length
  have hL0 : (recB 33 16909060 84281096 [W9])[0]? = some (headB 33 16909060 84281096 [W9]) := rfl
  have hL1 : (recB 33 16909060 84281096 [W9])[1]? = some (imageB 16909060 84281096 W9) := rfl
  have hH64 : (headB 33 16909060 84281096 [W9]).length = 64 := headB_length (by decide)
  have hI64 : (imageB 16909060 84281096 W9).length = 64 := image_length _ W9_ok
  have hH := f9_head
  have hI := f9_image
  have hI4 := f9_tail
  generalize recB 33 16909060 84281096 [W9] = L at *
  generalize headB 33 16909060 84281096 [W9] = hd at *
  generalize imageB 16909060 84281096 W9 = im at *
  go_enter Try.func13, Try.ntmps13
  go_wp2_with fail
  refine (recBegun_any _).mono ?_
  rintro e w1 ⟨rfl, W⟩
  have n1 := W.size
  go_wp2_with (refine wp_want rfl fun K hK => ?_; first | (refine wp_blk_build rfl rfl ?_; refine hK _ _ ?_; clear hK K) | (refine wp_wr_build rfl rfl rfl ?_; refine hK _ _ ?_; clear hK K) | refine wp_wr_alloc rfl ?_)
  intro w2 A2 b2 s2
  refine hK _ _ ?_
  clear hK K
  go_wp2_with (refine wp_want rfl fun K hK => ?_; refine wp_wr_store (x := (199, 7, Z56)) (y := (0, 0, Z56)) A2 Z56_length Z56_length rfl rfl rfl ?_)
  intro w3 A3 g3 z3
  refine hK _ _ ?_
  clear hK K
  have b3 := b2.grown g3 b2.size (fun k hk => by cases hk; exact Nat.le_refl _)
  have W := W.trans (b3.mono W.size)
  clear A2 b2 s2 g3 z3 b3
  obtain ⟨s1, s2, s3⟩ := RowAt.set A3 2 (.int .u8 9)
  have c2 := A3.cell 2 (.int .u8 0) rfl
  have f2 := RowAt.frozen A3 (i := 2)
  have A4 : WrAt (w3.setCell ⟨w1.heap.size, 2, none⟩ (.int .u8 9)) w1.heap.size W9 := s1
  have W := below_row W s2 W.size n1
  clear A3 s1 s3 s2
  go_upto_region 5 with fail
  generalize w3.setCell ⟨w1.heap.size, 2, none⟩ (.int .u8 9) = w4 at *
  clear c2 f2
  go_wp2_with (refine wp_want rfl fun K hK => ?_; first | (refine wp_wr_load A4 W9_ok rfl rfl ?_; refine hK _ _ ?_; clear hK K) | refine wp_wr_slice1 W9 W9_ok rfl rfl ?_)
  intro w5 A5 b5 s5
  refine hK _ _ ?_
  clear hK K
  have R5 := RdW.one A5 W9_ok
  have W := W.trans (b5.mono W.size)
  clear A4 A5 b5 s5
  go_wp2_with fail
  refine (hP9 _ _ R5).mono ?_
  rintro e w6 ⟨hy6, _, b6⟩
  obtain ⟨u6, rfl, hO6⟩ := hy6 f9_good
  have W := W.trans (b6.mono W.size)
  clear R5 b6 hP9 hy6
  obtain ⟨a6, c6, _, ev6, _⟩ := hO6.rd.sl
  rw [hL2] at ev6
  subst ev6
  obtain ⟨ad, y0, rfl, hc0, hr0, _⟩ := hO6.elem 0 (by rw [hL2]; decide)
  obtain ⟨adq, y1, ead, hc1, hr1, _⟩ := hO6.elem 1 (by rw [hL2]; decide)
  obtain rfl : ad = adq := Option.some.inj ead
  rw [Addr.add_zero'] at hc0
  rw [show (1 : Nat) = 0 + 1 from rfl, Addr.add_succ', Nat.zero_add] at hc1
  rw [show L[0]'(by rw [hL2]; decide) = hd from Option.some.inj ((List.getElem?_eq_getElem _).symm.trans hL0)] at hr0
  rw [show L[1]'(by rw [hL2]; decide) = im from Option.some.inj ((List.getElem?_eq_getElem _).symm.trans hL1)] at hr1
  obtain ⟨ay0, cy0, rfl, k0, k0'⟩ := hr0.some_ (by rw [bs_length, hH64]; decide)
  obtain ⟨ay1, cy1, rfl, k1, k1'⟩ := hr1.some_ (by rw [bs_length, hI64]; decide)
  rw [bs_length, hH64] at hc0 hr0 k0
  rw [bs_length, hI64] at hc1 hr1 k1
  have hb1 : w6.cell? ay1 = some (.int .u8 9) := by
    have := hr1.cell0 (by rw [bs_length, hI64]; decide)
    rw [this]
    have : (bs im)[0]? = some (u8 9) := by rw [bs, List.getElem?_map, hI]; rfl
    rw [List.getElem?_eq_getElem (by rw [bs_length, hI64]; decide)] at this
    exact this
  have hq0 := hr0.take 14 (by rw [bs_length, hH64]; decide)
  have hq1 := hr1.sub 56 60 (by decide) (by rw [bs_length, hI64]; decide)
  have hne : ¬ cy1 = 56 := by omega
  unfold sliced at hq1
  rw [if_neg hne, Option.map_some, show (56 * 1 : Nat) = 55 + 1 from rfl, Addr.add_succ', show (60 - 56 : Nat) = 4 from rfl, show (55 + 1 : Nat) = 56 from rfl, bs, ← List.map_drop, ← List.map_take, hI4] at hq1
  rw [bs, ← List.map_take, hH] at hq0
  have hs0 := run_string_of (P := Try.prog) hq0 37 5 9 Try.underlying37 Try.underlying5 Try.underlying9
  have hs1 := run_string_of (P := Try.prog) hq1 37 5 9 Try.underlying37 Try.underlying5 Try.underlying9
  clear hq0 hq1 hr0 hr1 hO6
  have k2 : 14 ≤ cy0 := by omega
  have k3 : (14 : Int) ≤ (cy0 : Int) := by omega
  have k4 : 60 ≤ cy1 := by omega
  have k5 : (60 : Int) ≤ (cy1 : Int) := by omega
  go_wp2_with (refine wp_want rfl fun K hK => ?_; refine wp_wr_make rfl rfl rfl ?_)
  intro w7 A7 b7 s7
  refine hK _ _ ?_
  clear hK K
  have n6 := W.size
  clear hs0 hs1 hc0 hc1 hb1 k0 k0' k1 k1' k2 k3 k4 k5 hne hH hI hI4 hL0 hL1 hL2 hH64 hI64
  go_wp2_with fail
  go_loopw [5] (fun i wr => ∃ k : Nat, k ≤ 13 ∧ i = .int .i64 (k : Int) ∧ RowAt wr w6.heap.size 71 ((stamped k).flatMap wrC).toArray ∧ Below w6.heap.size w6 wr) (fun i _ => 13 - (intOf i).toNat)
  case atStart => exact ⟨0, Nat.zero_le _, rfl, A7, b7⟩
  case round =>
    obtain ⟨k, hk, rfl, A8, hb'⟩ := hrel
    by_cases hlt : k < 13
    · have hlI : (k : Int) < 13 := by omega
      obtain ⟨⟨z0, s1⟩, s2, s3, s4, s5⟩ := stamped_store k hlt A8
      have b8 := below_row hb' s4 hb'.size (Nat.le_refl _)
      clear s4 s5 A8
      go_wp2_with fail
      go_roundw
      case rel => exact ⟨k + 1, by omega, by go_num, s3, b8⟩
      case measure => simp only [intOf]; omega
    · have hlI : ¬ (k : Int) < 13 := by omega
      obtain rfl : 13 = k := by omega
      have W := W.trans (hb'.mono n6)
      clear hb' b7 A7 hk hlt
      have R8 : RdW wr (.slice (some ⟨w6.heap.size, 0, none⟩) 13 13) (stamped 13) := RdW.row (stamped_ok 13) (by rw [stamped_length]; decide) A8
      have hS := stamped_length 13
      have hSok := stamped_ok 13
      have hb13 := f13_bad
      have hg12 := f12_good
      generalize stamped 13 = ls at *
      clear A8
      go_wp2_with fail
      refine (hP _ ls _ (by rw [hS]; decide) hSok R8).mono ?_
      rintro e w9 ⟨_, hn9, b9⟩
      obtain rfl := hn9 hb13
      have W := W.trans (b9.mono W.size)
      have R9 := R8.below b9
      clear hn9 b9 R8
      have R9' := RdW.take R9 12 (by rw [hS]; decide)
      go_wp2_with fail
      refine (hP _ (ls.take 12) _ (by rw [List.length_take]; omega) (fun x hx => hSok x (List.mem_of_mem_take hx)) R9').mono ?_
      rintro e w10 ⟨hy10, _, b10⟩
      obtain ⟨u10, rfl, hO10⟩ := hy10 hg12
      have W := W.trans (b10.mono W.size)
      obtain ⟨a10, c10, _, ev10, _⟩ := hO10.rd.sl
      rw [recB_length, List.length_take, hS, show min 12 13 + 1 = 13 from rfl] at ev10
      subst ev10
      clear hy10 b10 R9 R9' hO10
      go_wp2_with fail
      refine (hP _ [] _ (by decide) (by simp) (RdS.nil _ _ _)).mono ?_
      rintro e w11 ⟨_, hn11, b11⟩
      obtain rfl := hn11 f0_bad
      have W := W.trans (b11.mono W.size)
      clear hn11 b11
      go_wp2_with (refine wp_want rfl fun K hK => ?_; first | (refine wp_wr_build0 rfl rfl ?_; refine hK _ _ ?_; clear hK K) | refine wp_wr_slice1 (200, 0, Z56) Z56_length rfl rfl ?_)
      intro w12 A12 b12 s12
      refine hK _ _ ?_
      clear hK K
      have W := W.trans (b12.mono W.size)
      go_wp2_with fail
      refine (hP _ _ _ (by decide) (by intro x hx; obtain rfl := List.mem_singleton.1 hx; exact Z56_length) (RdW.one A12 Z56_length)).mono ?_
      rintro e w13 ⟨_, hn13, b13⟩
      obtain rfl := hn13 f200_bad
      have W := W.trans (b13.mono W.size)
      clear hn13 b13 A12 b12 s12
      go_wp2_with (refine wp_want rfl fun K hK => ?_; first | (refine wp_wr_build0 rfl rfl ?_; refine hK _ _ ?_; clear hK K) | refine wp_wr_slice1 (-1, 0, Z56) Z56_length rfl rfl ?_)
      intro w14 A14 b14 s14
      refine hK _ _ ?_
      clear hK K
      have W := W.trans (b14.mono W.size)
      go_wp2_with fail
      refine (hP _ _ _ (by decide) (by intro x hx; obtain rfl := List.mem_singleton.1 hx; exact Z56_length) (RdW.one A14 Z56_length)).mono ?_
      rintro e w15 ⟨_, hn15, b15⟩
      obtain rfl := hn15 fm1_bad
      have W := W.trans (b15.mono W.size)
      clear hn15 b15 A14 b14 s14
      go_wp2_with (refine wp_want rfl fun K hK => ?_; first | (refine wp_wr_build0 rfl rfl ?_; refine hK _ _ ?_; clear hK K) | refine wp_wr_slice2 (3, 0, Z56) (3, 0, Z56) Z56_length Z56_length rfl rfl rfl ?_)
      intro w16 R16 b16 s16
      refine hK _ _ ?_
      clear hK K
      have W := W.trans (b16.mono W.size)
      go_wp2_with fail
      refine (hP _ _ _ (by decide) (by intro x hx; simp only [List.mem_cons, List.not_mem_nil, or_false, or_self] at hx; subst hx; exact Z56_length) R16).mono ?_
      rintro e w17 ⟨_, hn17, b17⟩
      obtain rfl := hn17 f3_bad
      have W := W.trans (b17.mono W.size)
      clear hn17 b17 R16 b16 s16
      go_wp2_with (refine wp_want rfl fun K hK => ?_; first | (refine wp_blk_build rfl rfl ?_; refine hK _ _ ?_; clear hK K) | (refine wp_wr_build1 rfl rfl ?_; refine hK _ _ ?_; clear hK K) | refine wp_wr_slice1 (0, 8, Z56) Z56_length rfl rfl ?_)
      intro w18 A18 b18 s18
      refine hK _ _ ?_
      clear hK K
      have W := W.trans (b18.mono W.size)
      go_wp2_with fail
      refine (hP _ _ _ (by decide) (by intro x hx; obtain rfl := List.mem_singleton.1 hx; exact Z56_length) (RdW.one A18 Z56_length)).mono ?_
      rintro e w19 ⟨_, hn19, b19⟩
      obtain rfl := hn19 f8_bad
      have W := W.trans (b19.mono W.size)
      clear hn19 b19 A18 b18 s18
      go_wp2_with fail
      refine (hA _).mono ?_
      rintro e w20 ⟨u20, rfl, hO20, b20⟩
      have W := W.trans (b20.mono W.size)
      clear b20
      obtain ⟨g20, c20, rfl, _, _, h20, _⟩ := own_shape hO20 (by rw [hA64]; decide)
      rw [hA64] at h20
      have hq := hO20.rd
      rw [hA64] at hq
      have hq := hq.take 8 (by rw [bs_length, hA64]; decide)
      rw [bs, ← List.map_take, hA8] at hq
      have hs2 := run_string_of (P := Try.prog) hq 37 5 9 Try.underlying37 Try.underlying5 Try.underlying9
      rw [hA64]
      have k8 : 8 ≤ c20 := by omega
      have k9 : (8 : Int) ≤ (c20 : Int) := by omega
      clear hO20 hq
      go_wp2_with fail
      go_ret
      exact ⟨rfl, W⟩
end Go.Proofs.Ytgeiafijibgdhaa.Cl
