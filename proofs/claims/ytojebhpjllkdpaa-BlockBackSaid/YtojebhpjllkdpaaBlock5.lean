/- block.Open. -/
import Derived.Test.YtojebhpjllkdpaaBlock4
import Derived.Test.YtojebhpjllkdpaaBlkC
set_option linter.unusedVariables false
set_option linter.unusedSimpArgs false
namespace Go.Proofs.Ytojebhpjllkdpaa.Cl
open Go Go.Proofs Go.RowKit Fl Rely

def bodyOf (x : List UInt8) : List UInt8 := (x.drop 4).take 56
def opensAs (label : UInt8) (an : Int) (x : List UInt8) : Bool :=
  decide (x.length = 64) && mayBlk ((x.headD 0).toNat : Int) an && decide (sealedB (body60 (x.headD 0).toNat label an.toNat (bodyOf x)) = x)
def opBlk (label : UInt8) (an : Int) (x : List UInt8) : Value := if opensAs label an x then blkV ((x.headD 0).toNat : Int) (bodyOf x) else blkV 0 Z56
theorem bodyOf_length {x : List UInt8} (h : x.length = 64) : (bodyOf x).length = 56 := by simp [bodyOf]; omega
theorem opens_len {label : UInt8} {an : Int} {x : List UInt8} (h : x.length ≠ 64) : opensAs label an x = false := by simp [opensAs, h]
theorem opens_may {label : UInt8} {an : Int} {x : List UInt8} (h : mayBlk ((x.headD 0).toNat : Int) an = false) : opensAs label an x = false := by unfold opensAs; rw [h]; simp
theorem opens_eq {label : UInt8} {an : Int} {x : List UInt8} (hl : x.length = 64) (h : mayBlk ((x.headD 0).toNat : Int) an = true) : opensAs label an x = decide (sealedB (body60 (x.headD 0).toNat label an.toNat (bodyOf x)) = x) := by unfold opensAs; rw [h]; simp [hl]
set_option maxRecDepth 100000 in
set_option maxHeartbeats 4000000 in
theorem open_len (label : UInt8) (an : Int) (v : Value) (x : List UInt8) (w : World) (hv : Rd w v (bs x)) (hl : ((x.length : Int) != 64) = true) :
    Calls Try.prog 40 #[.int .u8 (label.toNat : Int), .int .i64 an, v] w fun e w' => e = .returned (.tuple #[opBlk label an x, .bool (opensAs label an x)]) ∧ Below w.heap.size w w' := by
  obtain ⟨a, cap, rfl, hc1, hc2, hcell, hnil⟩ := id hv
  have hno : opensAs label an x = false := opens_len (by simp at hl; omega)
  rw [bs_length] at *
  go_enter Try.func40, Try.ntmps40
  go_wp2_with (refine wp_want rfl fun K hK => ?_; refine wp_blk_alloc rfl ?_)
  intro w1 B1 b1 s1
  refine hK _ _ ?_
  clear hK K
  go_wp2_with fail
  refine wp_scope_jumps 0 (fun a' w' => (BlkAt w' w.heap.size 0 Z56 ∧ Below w.heap.size w w' ∧ opensAs label an x = false) ∧ ∃ (z0 z1 z2 z3 z4 z5 z7 z8 z9 z10 z11 z12 z13 z14 z15 z16 z17 z18 z19 z20 z21 z22 z23 z24 z25 z26 z27 z28 z29 z30 z31 z32 z33 z34 z35 z36 z37 z38 : Value), a' = { tmps := #[z0, z1, z2, z3, z4, z5, .pointer (some ⟨w.heap.size, 0, none⟩), z7, z8, z9, z10, z11, z12, z13, z14, z15, z16, z17, z18, z19, z20, z21, z22, z23, z24, z25, z26, z27, z28, z29, z30, z31, z32, z33, z34, z35, z36, z37, z38], defers := [] }) (fun _ _ => 0) rfl ?_ ?_
  · go_wp2_with (refine wp_want rfl fun K hK => ?_; refine wp_blk_alloc rfl ?_)
    intro w2 B2 b2 s2
    refine hK _ _ ?_
    clear hK K
    have B1 := B1.later b2
    have b2 := b1.trans (b2.mono b1.size)
    have hv2 := hv.below b2
    have hlt : w.heap.size < w1.heap.size := by omega
    clear b1
    go_wp2_with fail
    go_step3
    refine ⟨rfl, ?_, _, _, _, _, _, _, _, _, _, _, _, _, _, _, _, _, _, _, _, _, _, _, _, _, _, _, _, _, _, _, _, _, _, _, _, _, _, _, rfl⟩
    exact ⟨B1, b2, hno⟩
  · skip
    rintro a' w' ⟨⟨hB, hb, hno⟩, z0, z1, z2, z3, z4, z5, z7, z8, z9, z10, z11, z12, z13, z14, z15, z16, z17, z18, z19, z20, z21, z22, z23, z24, z25, z26, z27, z28, z29, z30, z31, z32, z33, z34, z35, z36, z37, z38, rfl⟩
    go_wp2_with (refine wp_want rfl fun K hK => ?_; first | refine wp_blk_store rfl rfl rfl Z56_length hB ?_ | (refine wp_blk_build0 rfl ?_; refine hK _ _ ?_; clear hK K))
    intro w2 B2 b2 s2
    refine hK _ _ ?_
    clear hK K
    go_wp2_with fail
    simp only [Exit.jump]
    have hb2 := hb.grown b2 hb.size (fun k hk => by cases hk; exact Nat.le_refl _)
    refine bodyPost_ret (results_blk2 rfl rfl rfl B2) rfl ⟨?_, hb2⟩
    simp [opBlk, hno]

set_option maxRecDepth 100000 in
set_option maxHeartbeats 4000000 in
theorem open_64 (label : UInt8) (an : Int) (v : Value) (x : List UInt8) (w : World) (hv : Rd w v (bs x)) (hl : x.length = 64) :
    Calls Try.prog 40 #[.int .u8 (label.toNat : Int), .int .i64 an, v] w fun e w' => e = .returned (.tuple #[opBlk label an x, .bool (opensAs label an x)]) ∧ Below w.heap.size w w' := by
  obtain ⟨a, cap, rfl, hc1, hc2, hcell, hnil⟩ := id hv
  have hl' := Lib.hid hl
  rw [bs_length, hl] at hc1 hv
  rw [bs_length, hl]
  clear hl
  have hl := hl'
  clear hl'
  obtain ⟨a, rfl⟩ : ∃ a', a = some a' := by cases a with
    | some a => exact ⟨a, rfl⟩
    | none => exact absurd (hnil rfl) (by omega)
  obtain ⟨c, hcx⟩ : ∃ c : UInt8, Hid (x.headD 0 = c) := ⟨_, Lib.hid rfl⟩
  have ha0 : w.cell? a = some (u8 c) := by
    rw [← hcx.out]
    obtain ⟨ad, e, hc⟩ := hcell 0 (by rw [bs_length, hl.out]; omega)
    obtain rfl := Option.some.inj e
    have e0 := Addr.add_zero' a
    rw [e0] at hc
    rw [hc, List.getElem_map, List.headD_eq_head?_getD, List.head?_eq_getElem?, List.getElem?_eq_getElem, Option.getD_some]
  clear hcell hnil
  go_enter Try.func40, Try.ntmps40
  go_wp2_with (refine wp_want rfl fun K hK => ?_; refine wp_blk_alloc rfl ?_)
  intro w1 B1 b1 s1
  refine hK _ _ ?_
  clear hK K
  go_wp2_with fail
  refine wp_scope_jumps 0 (fun a' w' => (BlkAt w' w.heap.size 0 Z56 ∧ Below w.heap.size w w' ∧ opensAs label an x = false) ∧ ∃ (z0 z1 z2 z3 z4 z5 z7 z8 z9 z10 z11 z12 z13 z14 z15 z16 z17 z18 z19 z20 z21 z22 z23 z24 z25 z26 z27 z28 z29 z30 z31 z32 z33 z34 z35 z36 z37 z38 : Value), a' = { tmps := #[z0, z1, z2, z3, z4, z5, .pointer (some ⟨w.heap.size, 0, none⟩), z7, z8, z9, z10, z11, z12, z13, z14, z15, z16, z17, z18, z19, z20, z21, z22, z23, z24, z25, z26, z27, z28, z29, z30, z31, z32, z33, z34, z35, z36, z37, z38], defers := [] }) (fun _ _ => 0) rfl ?_ ?_
  · go_wp2_with (refine wp_want rfl fun K hK => ?_; refine wp_blk_alloc rfl ?_)
    intro w2 B2 b2 s2
    refine hK _ _ ?_
    clear hK K
    have B1 := B1.later b2
    have b2 := b1.trans (b2.mono b1.size)
    have hv2 := hv.below b2
    have hlt : w.heap.size < w1.heap.size := by omega
    clear b1
    have c0 := cell_later b2 ha0
    have kf := B2.frozen (i := 0)
    have kc := B2.kind
    have e1 : IntKind.i64.wrap (c.toNat : Int) = (c.toNat : Int) := IntWalk.i64_in _ (by have := c.toNat_lt; omega)
    go_wp2_with fail
    obtain ⟨B3, g3, z3⟩ := B2.setKind (c.toNat : Int) (.int .i64 (c.toNat : Int)) rfl
    have ys := fun w2 => slice_body_all (g := w1.heap.size) w2
    have hv3 : Rd (w2.setCell ⟨w1.heap.size, 0, none⟩ (.int .i64 (c.toNat : Int))) (.slice (some a) 64 cap) (bs x) := hv.below (b2.grown g3 b2.size (fun k hk => by cases hk; omega))
    have B13 := B1.grown g3 (by omega)
    have b3 := b2.grown g3 b2.size (fun k hk => by cases hk; omega)
    have hz3 := z3.trans rfl
    generalize w2.setCell ⟨w1.heap.size, 0, none⟩ (.int .i64 (c.toNat : Int)) = w3 at *
    have hdr := (Below.refl w3.heap.size w3).drew
    have h60 : (60 : Int) ≤ (cap : Int) := by omega
    have h4 : ¬ cap = 4 := by omega
    refine RelyT.wp_region_rely 4 (by kernel_rfl) (by kernel_rfl) ?_
    simp only [List.take_succ_cons, List.take_zero]
    generalize World.drew w3 = wa at *
    repeat (first
      | (refine RelyT.wpR_step0 ?_ ?_ (fun K hK => ?_); rfl; rfl; go_simp; refine hK _ ?_; clear hK K))
    refine RelyT.wpR_nil fun x => ?_
    obtain ⟨w4, w4b⟩ := x
    simp only [RelyT.close, List.drop_succ_cons, List.drop_zero]
    have hv4 := (hv3.below hdr).below (w4b.mono (Nat.le_refl _))
    have hd4 := (Rd.sub hv4 4 60 (by omega) (by rw [bs_length, hl.out]; omega))
    have e60 : ((bs x).drop 4).take (60 - 4) = bs (bodyOf x) := by simp [bodyOf, bs, List.map_take, List.map_drop]
    have es : sliced (some a) 4 60 cap 1 = .slice (some ⟨a.block, a.off + 4, none⟩) 56 (cap - 4) := by simp [sliced, h4, Addr.add]
    rw [e60, es] at hd4
    have hlb : (bodyOf x).length = 56 := bodyOf_length hl.out
    have hlb' := Lib.hid hlb
    have w3w := hdr.trans (w4b.mono hdr.size)
    have B34 := B3.later w3w
    have B14 := B13.later w3w
    have b4 := b3.trans (w3w.mono b3.size)
    have hwb := w3w.size
    clear e60 es hv4 B3 B13 ys hlb hdr w4b hv3
    refine wpList_copy_body w1.heap.size _ _ (bodyOf x) _ _ rfl _ _ rfl rfl rfl rfl B34 hd4 (Nat.le_of_eq hlb'.out) ?_
    intro w5 B5 g5 z5
    have e56 : bodyOf x ++ Z56.drop (bodyOf x).length = bodyOf x := by rw [hlb'.out]; simp [Z56]
    rw [e56] at B5
    rw [hlb'.out]
    have b5 := b4.grown g5 b4.size (fun k hk => by cases hk; omega)
    have B15 := B14.grown g5 (by omega)
    have hwb5 : w1.heap.size < w5.heap.size := by omega
    have hv5 := hv.below b5
    clear e56 B34 B14 g5 z5 hd4 b4 w3w hwb b3 hz3
    by_cases hm : mayBlk (c.toNat : Int) an = true
    · go_wp2_with (refine wp_want rfl fun K hK => ?_; refine wp_blk_load rfl rfl B5 ?_; refine hK _ _ ?_; clear hK K)
      obtain ⟨hk7, n, rfl, hn⟩ : c.toNat ≤ 7 ∧ ∃ n : Nat, an = (n : Int) ∧ n < 200 := by
        simp [mayBlk] at hm
        exact ⟨by omega, an.toNat, by omega, by omega⟩
      refine (seal_any label c.toNat n (bodyOf x) w5 hk7 hn hlb'.out).mono ?_
      rintro e w6 ⟨u, rfl, hO, b6⟩
      have hr := opens_eq (label := label) (an := (n : Int)) (x := x) hl.out (by rw [hcx.out]; exact hm)
      rw [hcx.out, Int.toNat_natCast] at hr
      have b56 := b5.trans (b6.mono b5.size)
      have B15 := B15.later b6
      have B56 := B5.later b6
      have hv6 := hv5.below b6
      clear b6 B5 hm b5 hv5
      go_wp2_with fail
      refine (equal_any u (.slice (some a) 64 cap) _ x w6 hO.rd hv6).mono ?_
      rintro e wq ⟨rfl, rfl⟩
      rw [← hr]
      have hr' := Lib.hid hr
      clear hr
      rcases hgd : opensAs label (n : Int) x with _ | _
      · have hno := Lib.hid hgd
        clear hgd
        go_wp2_with fail
        go_step3
        go_wp2_with (refine wp_want rfl fun K hK => ?_; first | refine wp_blk_store rfl rfl rfl Z56_length B15 ?_ | (refine wp_blk_build0 rfl ?_; refine hK _ _ ?_; clear hK K))
        intro w7 B7 g7 z7
        refine hK _ _ ?_
        clear hK K
        go_wp2_with fail
        simp only [Exit.jump]
        have b7 := b56.grown g7 b56.size (fun k hk => by cases hk; exact Nat.le_refl _)
        refine bodyPost_ret (results_blk2 rfl rfl rfl B7) rfl ⟨?_, b7⟩
        simp [opBlk, hno.out]
      · have hno := Lib.hid hgd
        clear hgd
        go_wp2_with (refine wp_want rfl fun K hK => ?_; first | refine wp_blk_store rfl rfl rfl hlb'.out B15 ?_ | (refine wp_blk_load rfl rfl B56 ?_; refine hK _ _ ?_; clear hK K))
        intro w7 B7 g7 z7
        refine hK _ _ ?_
        clear hK K
        go_wp2_with fail
        simp only [Exit.jump]
        have b7 := b56.grown g7 b56.size (fun k hk => by cases hk; exact Nat.le_refl _)
        refine bodyPost_ret (results_blk2 rfl rfl rfl B7) rfl ⟨?_, b7⟩
        rw [opBlk, if_pos hno.out, hno.out, hcx.out]
        rfl
    · have hm' : mayBlk (c.toNat : Int) an = false := by cases h : mayBlk (c.toNat : Int) an <;> simp_all
      have hno : opensAs label an x = false := opens_may (by rw [hcx.out]; exact hm')
      have hno := Lib.hid hno
      clear hm
      go_wp2_with (refine wp_want rfl fun K hK => ?_; refine wp_blk_load rfl rfl B5 ?_; refine hK _ _ ?_; clear hK K)
      refine (seal_no label (c.toNat : Int) an (bodyOf x) w5 hm' hlb'.out).mono ?_
      rintro e w6 ⟨rfl, b6⟩
      have b56 := b5.trans (b6.mono b5.size)
      have B15 := B15.later b6
      clear b6 B5 hm' b5 hv5
      go_wp2_with fail
      go_step3
      go_wp2_with (refine wp_want rfl fun K hK => ?_; first | refine wp_blk_store rfl rfl rfl Z56_length B15 ?_ | (refine wp_blk_build0 rfl ?_; refine hK _ _ ?_; clear hK K))
      intro w7 B7 g7 z7
      refine hK _ _ ?_
      clear hK K
      go_wp2_with fail
      simp only [Exit.jump]
      have b7 := b56.grown g7 b56.size (fun k hk => by cases hk; exact Nat.le_refl _)
      refine bodyPost_ret (results_blk2 rfl rfl rfl B7) rfl ⟨?_, b7⟩
      simp [opBlk, hno.out]
  · skip
    rintro a' w' ⟨⟨hB, hb, hno⟩, z0, z1, z2, z3, z4, z5, z7, z8, z9, z10, z11, z12, z13, z14, z15, z16, z17, z18, z19, z20, z21, z22, z23, z24, z25, z26, z27, z28, z29, z30, z31, z32, z33, z34, z35, z36, z37, z38, rfl⟩
    go_wp2_with (refine wp_want rfl fun K hK => ?_; first | refine wp_blk_store rfl rfl rfl Z56_length hB ?_ | (refine wp_blk_build0 rfl ?_; refine hK _ _ ?_; clear hK K))
    intro w2 B2 b2 s2
    refine hK _ _ ?_
    clear hK K
    go_wp2_with fail
    simp only [Exit.jump]
    have hb2 := hb.grown b2 hb.size (fun k hk => by cases hk; exact Nat.le_refl _)
    refine bodyPost_ret (results_blk2 rfl rfl rfl B2) rfl ⟨?_, hb2⟩
    simp [opBlk, hno]
theorem open_any (label : UInt8) (an : Int) (v : Value) (x : List UInt8) (w : World) (hv : Rd w v (bs x)) :
    Calls Try.prog 40 #[.int .u8 (label.toNat : Int), .int .i64 an, v] w fun e w' => e = .returned (.tuple #[opBlk label an x, .bool (opensAs label an x)]) ∧ Below w.heap.size w w' := by
  by_cases hl : x.length = 64
  · exact open_64 label an v x w hv hl
  · exact open_len label an v x w hv (by simp; omega)
end Go.Proofs.Ytojebhpjllkdpaa.Cl
