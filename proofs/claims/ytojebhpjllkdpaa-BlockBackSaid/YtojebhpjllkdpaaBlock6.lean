/- The reference's Open. -/
import Derived.Test.YtojebhpjllkdpaaBlock5
set_option linter.unusedVariables false
set_option linter.unusedSimpArgs false
namespace Go.Proofs.Ytojebhpjllkdpaa.Cl
open Go Go.Proofs Go.RowKit Fl Rely

set_option maxRecDepth 100000 in
set_option maxHeartbeats 4000000 in
theorem refOpen_len (label : UInt8) (an : Int) (v : Value) (x : List UInt8) (w : World) (hv : Rd w v (bs x)) (hl : ((x.length : Int) != 64) = true) :
    Calls Try.prog 41 #[.int .u8 (label.toNat : Int), .int .i64 an, v] w fun e w' => e = .returned (.tuple #[opBlk label an x, .bool (opensAs label an x)]) ∧ Below w.heap.size w w' := by
  obtain ⟨a, cap, rfl, hc1, hc2, hcell, hnil⟩ := id hv
  have hno : opensAs label an x = false := opens_len (by simp at hl; omega)
  rw [bs_length] at *
  go_enter Try.func41, Try.ntmps41
  go_wp2_with (refine wp_want rfl fun K hK => ?_; refine wp_blk_alloc rfl ?_)
  intro w1 B1 b1 s1
  refine hK _ _ ?_
  clear hK K
  go_wp2_with (refine wp_want rfl fun K hK => ?_; first | refine wp_blk_store rfl rfl rfl Z56_length B1 ?_ | (refine wp_blk_build0 rfl ?_; refine hK _ _ ?_; clear hK K))
  intro w2 B2 b2 s2
  refine hK _ _ ?_
  clear hK K
  go_wp2_with fail
  have hb2 := b1.grown b2 b1.size (fun k hk => by cases hk; exact Nat.le_refl _)
  refine bodyPost_ret (results_blk2 rfl rfl rfl B2) rfl ⟨?_, hb2⟩
  simp [opBlk, hno]

theorem set_snoc {b z : List UInt8} {j : Nat} {d : UInt8} (hd : b[j]? = some d) (hb : b.length = 56) (hz : z.length = 56) : (b.take j ++ z.drop j).set j d = b.take (j + 1) ++ z.drop (j + 1) := by
  have hj : j < b.length := (List.getElem?_eq_some_iff.1 hd).1
  have hdj : b[j] = d := by rw [List.getElem?_eq_getElem hj] at hd; exact Option.some.inj hd
  rw [List.set_append_right _ _ (by simp; omega), List.take_succ_eq_append_getElem hj, hdj, List.append_assoc]
  congr 1
  rw [show j - (b.take j).length = 0 by simp; omega, List.drop_eq_getElem_cons (by omega)]
  rfl
set_option maxRecDepth 100000 in
set_option maxHeartbeats 4000000 in
theorem refOpen_64 (label : UInt8) (an : Int) (v : Value) (x : List UInt8) (w : World) (hv : Rd w v (bs x)) (hl : x.length = 64) :
    Calls Try.prog 41 #[.int .u8 (label.toNat : Int), .int .i64 an, v] w fun e w' => e = .returned (.tuple #[opBlk label an x, .bool (opensAs label an x)]) ∧ Below w.heap.size w w' := by
  obtain ⟨a, cap, rfl, hc1, hc2, hcell, hnil⟩ := id hv
  have hl' := Lib.hid hl
  rw [bs_length, hl] at hc1 hv
  rw [bs_length, hl]
  clear hl
  have hl := hl'
  clear hl'
  obtain ⟨a, rfl⟩ : ∃ a', a = some a' := by cases a with
    | some a => exact ⟨a, rfl⟩
    | none => exact absurd (hnil rfl) (by omega)
  obtain ⟨c, hcx⟩ : ∃ c : UInt8, Hid (x.headD 0 = c) := ⟨_, Lib.hid rfl⟩
  have ha0 : w.cell? a = some (u8 c) := by
    rw [← hcx.out]
    obtain ⟨ad, e, hc⟩ := hcell 0 (by rw [bs_length, hl.out]; omega)
    obtain rfl := Option.some.inj e
    have e0 := Addr.add_zero' a
    rw [e0] at hc
    rw [hc, List.getElem_map, List.headD_eq_head?_getD, List.head?_eq_getElem?, List.getElem?_eq_getElem, Option.getD_some]
  have hcl : ∀ j, (h : j < 56) → ∃ d : UInt8, (bodyOf x)[j]? = some d ∧ w.cell? (a.add (4 + j)) = some (u8 d) := by
    intro j h
    obtain ⟨ad, e, hc⟩ := hcell (4 + j) (by rw [bs_length, hl.out]; omega)
    obtain rfl := Option.some.inj e
    refine ⟨x[4 + j]'(by rw [hl.out]; omega), ?_, ?_⟩
    · rw [bodyOf, List.getElem?_take, if_pos h, List.getElem?_drop, List.getElem?_eq_getElem]
    · rw [hc, List.getElem_map]
  clear hcell hnil
  go_enter Try.func41, Try.ntmps41
  go_wp2_with (refine wp_want rfl fun K hK => ?_; refine wp_blk_alloc rfl ?_)
  intro w1 B1 b1 s1
  refine hK _ _ ?_
  clear hK K
  have c0 := cell_later b1 ha0
  have e1 : IntKind.i64.wrap (c.toNat : Int) = (c.toNat : Int) := IntWalk.i64_in _ (by have := c.toNat_lt; omega)
  go_wp2_with (refine wp_want rfl fun K hK => ?_; first | refine wp_blk_alloc rfl ?_ | (refine wp_blk_build rfl rfl ?_; refine hK _ _ ?_; clear hK K))
  intro w2 B2 b2 s2
  refine hK _ _ ?_
  clear hK K
  go_wp2_with (refine wp_want rfl fun K hK => ?_; refine wp_blk_store rfl rfl rfl Z56_length B2 ?_)
  intro w3 B3 b3 s3
  refine hK _ _ ?_
  clear hK K
  have B13 := (B1.later b2).grown b3 (by omega)
  have b13 := (b1.trans (b2.mono b1.size)).grown b3 (by have := b1.size; have := b2.size; omega) (fun k hk => by cases hk; omega)
  clear B1 B2 b1 b2 b3 c0
  have hlb' := Lib.hid (bodyOf_length hl.out)
  go_wp2_with fail
  go_loopw [9] (fun i wr => ∃ j : Nat, j ≤ 56 ∧ i = .int .i64 j ∧ BlkAt wr w1.heap.size (c.toNat : Int) ((bodyOf x).take j ++ Z56.drop j) ∧ BlkAt wr w.heap.size 0 Z56 ∧ Below w.heap.size w wr ∧ w1.heap.size < wr.heap.size) (fun i _ => 56 - (intOf i).toNat)
  case atStart => exact ⟨0, by omega, rfl, by simpa using B3, B13, b13, by omega⟩
  case round =>
    obtain ⟨j, hj, rfl, hBr, hB1, hb, hsz⟩ := hrel
    clear B3 B13 b13 s3 s2
    by_cases h56 : j < 56
    · obtain ⟨d, hd, hcd⟩ := hcl j h56
      have hcr := cell_later hb hcd
      have hby := hBr.byte (i := j) (by rw [hBr.1]; exact h56)
      have hfz := hBr.frozen (i := 1 + j)
      go_wp2_with fail
      obtain ⟨B5, g5, z5⟩ := hBr.setByte j d (u8 d) rfl
      have es : ((bodyOf x).take j ++ Z56.drop j).set j d = (bodyOf x).take (j + 1) ++ Z56.drop (j + 1) := set_snoc hd hlb'.out Z56_length
      rw [es] at B5
      have b5 := hb.grown g5 hb.size (fun k hk => by cases hk; omega)
      have B15 := hB1.grown g5 (by omega)
      go_roundw
      case rel => exact ⟨j + 1, by omega, by go_num, B5, B15, b5, Nat.lt_of_lt_of_eq hsz z5.symm⟩
      case measure => simp only [intOf]; omega
    · obtain rfl : j = 56 := by omega
      have et : (bodyOf x).take 56 ++ Z56.drop 56 = bodyOf x := by rw [List.take_of_length_le (by rw [hlb'.out]; omega)]; simp [Z56]
      rw [et] at hBr
      have hvr := hv.below hb
      by_cases hm : mayBlk (c.toNat : Int) an = true
      · obtain ⟨hk7, n, rfl, hn⟩ : c.toNat ≤ 7 ∧ ∃ n : Nat, an = (n : Int) ∧ n < 200 := by
          simp [mayBlk] at hm
          exact ⟨by omega, an.toNat, by omega, by omega⟩
        go_wp2_with (refine wp_want rfl fun K hK => ?_; refine wp_blk_load rfl rfl hBr ?_; refine hK _ _ ?_; clear hK K)
        refine (refSeal_any label c.toNat n (bodyOf x) wr hk7 hn hlb'.out).mono ?_
        rintro e w6 ⟨u, rfl, hO, b6⟩
        have hr := opens_eq (label := label) (an := (n : Int)) (x := x) hl.out (by rw [hcx.out]; exact hm)
        rw [hcx.out, Int.toNat_natCast] at hr
        have b56 := hb.trans (b6.mono hb.size)
        have B15 := hB1.later b6
        have B56 := hBr.later b6
        have hv6 := hvr.below b6
        clear b6 hBr hB1 hm hb hvr
        have hs1 := run_string_of (P := Try.prog) hO.rd 22 5 9 Try.underlying22 Try.underlying5 Try.underlying9
        have hs2 := run_string_of (P := Try.prog) hv6 22 5 9 Try.underlying22 Try.underlying5 Try.underlying9
        have hr' := Lib.hid hr
        clear hr
        by_cases heq : sealedB (body60 c.toNat label n (bodyOf x)) = x
        · have hyes : opensAs label (n : Int) x = true := by rw [hr'.out, decide_eq_true heq]
          have hyes := Lib.hid hyes
          go_wp2_with (refine wp_want rfl fun K hK => ?_; first | refine wp_blk_store rfl rfl rfl hlb'.out B15 ?_ | (refine wp_blk_load rfl rfl B56 ?_; refine hK _ _ ?_; clear hK K))
          intro w7 B7 g7 z7
          refine hK _ _ ?_
          clear hK K
          go_wp2_with fail
          have b7 := b56.grown g7 b56.size (fun k hk => by cases hk; exact Nat.le_refl _)
          refine bodyPost_ret (results_blk2 rfl rfl rfl B7) rfl ⟨?_, b7⟩
          rw [opBlk, if_pos hyes.out, hyes.out, hcx.out]
          rfl
        · have hno : opensAs label (n : Int) x = false := by rw [hr'.out, decide_eq_false heq]
          have hno := Lib.hid hno
          have hbe : (sealedB (body60 c.toNat label n (bodyOf x)) == x) = false := beq_eq_false_iff_ne.2 heq
          clear heq
          go_wp2_with (refine wp_want rfl fun K hK => ?_; first | refine wp_blk_store rfl rfl rfl Z56_length B15 ?_ | (refine wp_blk_build0 rfl ?_; refine hK _ _ ?_; clear hK K))
          intro w7 B7 g7 z7
          refine hK _ _ ?_
          clear hK K
          go_wp2_with fail
          have b7 := b56.grown g7 b56.size (fun k hk => by cases hk; exact Nat.le_refl _)
          refine bodyPost_ret (results_blk2 rfl rfl rfl B7) rfl ⟨?_, b7⟩
          simp [opBlk, hno.out]
      · have hm' : mayBlk (c.toNat : Int) an = false := by cases h : mayBlk (c.toNat : Int) an <;> simp_all
        have hno : opensAs label an x = false := opens_may (by rw [hcx.out]; exact hm')
        have hno := Lib.hid hno
        clear hm
        go_wp2_with (refine wp_want rfl fun K hK => ?_; refine wp_blk_load rfl rfl hBr ?_; refine hK _ _ ?_; clear hK K)
        refine (refSeal_no label (c.toNat : Int) an (bodyOf x) wr hm' hlb'.out).mono ?_
        rintro e w6 ⟨rfl, b6⟩
        have b56 := hb.trans (b6.mono hb.size)
        have B15 := hB1.later b6
        clear b6 hBr hB1 hm' hb hvr
        go_wp2_with (refine wp_want rfl fun K hK => ?_; first | refine wp_blk_store rfl rfl rfl Z56_length B15 ?_ | (refine wp_blk_build0 rfl ?_; refine hK _ _ ?_; clear hK K))
        intro w7 B7 g7 z7
        refine hK _ _ ?_
        clear hK K
        go_wp2_with fail
        have b7 := b56.grown g7 b56.size (fun k hk => by cases hk; exact Nat.le_refl _)
        refine bodyPost_ret (results_blk2 rfl rfl rfl B7) rfl ⟨?_, b7⟩
        simp [opBlk, hno.out]
theorem refOpen_any (label : UInt8) (an : Int) (v : Value) (x : List UInt8) (w : World) (hv : Rd w v (bs x)) :
    Calls Try.prog 41 #[.int .u8 (label.toNat : Int), .int .i64 an, v] w fun e w' => e = .returned (.tuple #[opBlk label an x, .bool (opensAs label an x)]) ∧ Below w.heap.size w w' := by
  by_cases hl : x.length = 64
  · exact refOpen_64 label an v x w hv hl
  · exact refOpen_len label an v x w hv (by simp; omega)
end Go.Proofs.Ytojebhpjllkdpaa.Cl
