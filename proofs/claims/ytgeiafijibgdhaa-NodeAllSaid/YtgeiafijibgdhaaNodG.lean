/- The law NodeAll. -/
import Derived.Test.YtgeiafijibgdhaaNodE
import Derived.Test.YtgeiafijibgdhaaZigE
set_option linter.unusedVariables false
set_option linter.unusedSimpArgs false
namespace Go.Proofs.Ytgeiafijibgdhaa.Cl
open Go Go.Proofs Go.RowKit Fl Rely

theorem eql_blkN (k : Int) (b : List UInt8) (hb : b.length = 56) : ∀ w, (binOp .eql 28 (blkV k b) (blkV k b)).run Try.prog w = .ok (.bool true) w := fun w => by
  have e := run_eql_blk w k k b b hb hb
  rw [decide_eq_true ⟨rfl, rfl⟩] at e
  unfold blkV at e ⊢
  rw [run_eql_struct, e]
  rfl
theorem guard_blkN (k : Int) (b : List UInt8) : ∀ x y w, (eqGuard .eql 28 x y (blkV k b) (blkV k b)).run Try.prog w = .ok () w := fun x y w => run_eqGuard_agg (P := Try.prog) w .eql _ x y _ _ guardBlk
set_option maxRecDepth 100000 in
set_option maxHeartbeats 8000000 in
theorem ndAll_law (kind : Int) (n : Nd) (kb : Int) (b : List UInt8) (w : World) (ok : n.s.length ≤ 1000000 → NdOk n) (hb : b.length = 56) : Calls Try.prog 3 #[.int .i64 kind, ndV n, blkV kb b] w fun e w' => e = .returned (.bool true) ∧ Below w.heap.size w w' := by
  have hB := ndBegun_any
  by_cases h60 : n.s.length ≤ 60
  · skip
    have ok := ok (by omega)
    have hI : ¬ (60 : Int) < (n.s.length : Int) := by omega
    have hP := fun w => ndPut_any kind n w ok
    have hP2 := fun w => refPutNode_any kind n w ok
    have hT := fun w => ndTake_any kb b w hb
    have hT2 := fun w => refTakeNode_any kb b w hb
    have hM := fun w => ndMay_any kind n w ok
    have hM2 := fun w => refMayNode_any kind n w ok
    have hl := ndBody_length (kind := kind) (n := n)
    obtain ⟨y, hy⟩ : ∃ y, y = if goodN kb b then readNd b else zNd := ⟨_, rfl⟩
    rw [show ndO kb b = .tuple #[ndV y, .bool (decide (goodN kb b))] by rw [hy]; rfl] at hT hT2
    clear hy ok
    generalize decide (goodN kb b) = gd at *
    generalize decide (mayN kind n) = mn at *
    generalize ndK kind n = kn at *
    generalize ndBody kind n = bn at *
    go_enter Try.func3, Try.ntmps3
    go_wp2_with (refine wp_want rfl fun K hK => ?_; first | refine wp_rw_box (P := Try.prog) (t := 25) (ndA n) rfl rfl ?_)
    intro w1 Nx b1 s1
    refine hK _ _ ?_
    clear hK K
    have W := b1
    have N := Nx
    clear Nx s1
    have lQN := RowAt.lt N
    go_wp2_with (refine wp_want rfl fun K hK => ?_; first | (refine wp_rw_load (P := Try.prog) N Try.underlying25 rfl infoNd_size rfl rfl ?_; refine hK _ _ ?_; clear hK K) | refine wp_blk_box rfl rfl hb ?_)
    intro w2 Qx b2 s2
    refine hK _ _ ?_
    clear hK K
    have N := RowAt.later N b2
    have W := W.trans (b2.mono W.size)
    have Q := Qx
    clear Qx s2
    go_wp2_with (refine wp_want rfl fun K hK => ?_; first | (refine wp_rw_load (P := Try.prog) N Try.underlying25 rfl infoNd_size rfl rfl ?_; refine hK _ _ ?_; clear hK K) | (refine wp_blk_load rfl rfl Q ?_; refine hK _ _ ?_; clear hK K))
    refine (hB _).mono ?_
    rintro e w3 ⟨rfl, b3⟩
    have N := RowAt.later N b3
    have Q := Q.later b3
    have W := W.trans (b3.mono W.size)
    clear b3
    have c8 := RowAt.cell N 8 (str n.s) rfl
    go_wp2_with (refine wp_want rfl fun K hK => ?_; first | (refine wp_rw_load (P := Try.prog) N Try.underlying25 rfl infoNd_size rfl rfl ?_; refine hK _ _ ?_; clear hK K) | (refine wp_blk_load rfl rfl Q ?_; refine hK _ _ ?_; clear hK K))
    refine (hP _).mono ?_
    rintro e w4 ⟨rfl, b4⟩
    have N := RowAt.later N b4
    have Q := Q.later b4
    have W := W.trans (b4.mono W.size)
    clear b4
    clear c8
    have nnX := W.size
    go_wp2_with (refine wp_want rfl fun K hK => ?_; first | (refine wp_rw_load (P := Try.prog) N Try.underlying25 rfl infoNd_size rfl rfl ?_; refine hK _ _ ?_; clear hK K) | (refine wp_blk_load rfl rfl Q ?_; refine hK _ _ ?_; clear hK K) | refine wp_blk_alloc rfl ?_)
    intro w5 Y5 c5 s5
    refine hK _ _ ?_
    clear hK K
    go_wp2_with (refine wp_want rfl fun K hK => ?_; first | (refine wp_rw_load (P := Try.prog) N Try.underlying25 rfl infoNd_size rfl rfl ?_; refine hK _ _ ?_; clear hK K) | (refine wp_blk_load rfl rfl Q ?_; refine hK _ _ ?_; clear hK K) | refine wp_blk_store rfl rfl rfl hl Y5 ?_)
    intro w6 Z6 g6 z6
    refine hK _ _ ?_
    clear hK K
    have d6 := below_row c5 g6 c5.size (Nat.le_refl _)
    have lXN := RowAt.lt N
    have lXQ := Q.lt
    have N := RowAt.later N d6
    have Q := Q.later d6
    have W := W.trans (d6.mono W.size)
    have X := Z6
    clear Y5 c5 s5 Z6 g6 z6 d6
    go_wp2_with (refine wp_want rfl fun K hK => ?_; first | (refine wp_rw_load (P := Try.prog) N Try.underlying25 rfl infoNd_size rfl rfl ?_; refine hK _ _ ?_; clear hK K) | (refine wp_blk_load rfl rfl Q ?_; refine hK _ _ ?_; clear hK K) | (refine wp_blk_load rfl rfl X ?_; refine hK _ _ ?_; clear hK K))
    refine (hP2 _).mono ?_
    rintro e w7 ⟨rfl, b7⟩
    have N := RowAt.later N b7
    have Q := Q.later b7
    have X := X.later b7
    have W := W.trans (b7.mono W.size)
    clear b7
    have nnY := W.size
    go_wp2_with (refine wp_want rfl fun K hK => ?_; first | (refine wp_rw_load (P := Try.prog) N Try.underlying25 rfl infoNd_size rfl rfl ?_; refine hK _ _ ?_; clear hK K) | (refine wp_blk_load rfl rfl Q ?_; refine hK _ _ ?_; clear hK K) | (refine wp_blk_load rfl rfl X ?_; refine hK _ _ ?_; clear hK K) | refine wp_blk_alloc rfl ?_)
    intro w8 Y8 c8 s8
    refine hK _ _ ?_
    clear hK K
    go_wp2_with (refine wp_want rfl fun K hK => ?_; first | (refine wp_rw_load (P := Try.prog) N Try.underlying25 rfl infoNd_size rfl rfl ?_; refine hK _ _ ?_; clear hK K) | (refine wp_blk_load rfl rfl Q ?_; refine hK _ _ ?_; clear hK K) | (refine wp_blk_load rfl rfl X ?_; refine hK _ _ ?_; clear hK K) | refine wp_blk_store rfl rfl rfl hl Y8 ?_)
    intro w9 Z9 g9 z9
    refine hK _ _ ?_
    clear hK K
    have d9 := below_row c8 g9 c8.size (Nat.le_refl _)
    have lYN := RowAt.lt N
    have lYQ := Q.lt
    have lYX := X.lt
    have N := RowAt.later N d9
    have Q := Q.later d9
    have X := X.later d9
    have W := W.trans (d9.mono W.size)
    have Y := Z9
    clear Y8 c8 s8 Z9 g9 z9 d9
    go_wp2_with (refine wp_want rfl fun K hK => ?_; first | (refine wp_rw_load (P := Try.prog) N Try.underlying25 rfl infoNd_size rfl rfl ?_; refine hK _ _ ?_; clear hK K) | (refine wp_blk_load rfl rfl Q ?_; refine hK _ _ ?_; clear hK K) | (refine wp_blk_load rfl rfl X ?_; refine hK _ _ ?_; clear hK K) | (refine wp_blk_load rfl rfl Y ?_; refine hK _ _ ?_; clear hK K))
    refine (hT _).mono ?_
    rintro e w10 ⟨rfl, b10⟩
    have N := RowAt.later N b10
    have Q := Q.later b10
    have X := X.later b10
    have Y := Y.later b10
    have W := W.trans (b10.mono W.size)
    clear b10
    have nnU := W.size
    go_wp2_with (refine wp_want rfl fun K hK => ?_; first | (refine wp_rw_load (P := Try.prog) N Try.underlying25 rfl infoNd_size rfl rfl ?_; refine hK _ _ ?_; clear hK K) | (refine wp_blk_load rfl rfl Q ?_; refine hK _ _ ?_; clear hK K) | (refine wp_blk_load rfl rfl X ?_; refine hK _ _ ?_; clear hK K) | (refine wp_blk_load rfl rfl Y ?_; refine hK _ _ ?_; clear hK K) | refine wp_rw_alloc (P := Try.prog) (t := 25) (ndV zNd) infoNd_zero rfl ?_)
    intro w11 Y11 c11 s11
    refine hK _ _ ?_
    clear hK K
    go_wp2_with (refine wp_want rfl fun K hK => ?_; first | (refine wp_rw_load (P := Try.prog) N Try.underlying25 rfl infoNd_size rfl rfl ?_; refine hK _ _ ?_; clear hK K) | (refine wp_blk_load rfl rfl Q ?_; refine hK _ _ ?_; clear hK K) | (refine wp_blk_load rfl rfl X ?_; refine hK _ _ ?_; clear hK K) | (refine wp_blk_load rfl rfl Y ?_; refine hK _ _ ?_; clear hK K) | refine wp_rw_store (P := Try.prog) (cs := ndA y) Y11 infoNd_size rfl (ndA_all _) rfl rfl rfl ?_)
    intro w12 Z12 g12 z12
    refine hK _ _ ?_
    clear hK K
    have d12 := below_row c11 g12 c11.size (Nat.le_refl _)
    have lUN := RowAt.lt N
    have lUQ := Q.lt
    have lUX := X.lt
    have lUY := Y.lt
    have N := RowAt.later N d12
    have Q := Q.later d12
    have X := X.later d12
    have Y := Y.later d12
    have W := W.trans (d12.mono W.size)
    have U := Z12
    clear Y11 c11 s11 Z12 g12 z12 d12
    go_wp2_with (refine wp_want rfl fun K hK => ?_; first | (refine wp_rw_load (P := Try.prog) N Try.underlying25 rfl infoNd_size rfl rfl ?_; refine hK _ _ ?_; clear hK K) | (refine wp_blk_load rfl rfl Q ?_; refine hK _ _ ?_; clear hK K) | (refine wp_blk_load rfl rfl X ?_; refine hK _ _ ?_; clear hK K) | (refine wp_blk_load rfl rfl Y ?_; refine hK _ _ ?_; clear hK K) | (refine wp_rw_load (P := Try.prog) U Try.underlying25 rfl infoNd_size rfl rfl ?_; refine hK _ _ ?_; clear hK K))
    refine (hT2 _).mono ?_
    rintro e w13 ⟨rfl, b13⟩
    have N := RowAt.later N b13
    have Q := Q.later b13
    have X := X.later b13
    have Y := Y.later b13
    have U := RowAt.later U b13
    have W := W.trans (b13.mono W.size)
    clear b13
    have nnV := W.size
    go_wp2_with (refine wp_want rfl fun K hK => ?_; first | (refine wp_rw_load (P := Try.prog) N Try.underlying25 rfl infoNd_size rfl rfl ?_; refine hK _ _ ?_; clear hK K) | (refine wp_blk_load rfl rfl Q ?_; refine hK _ _ ?_; clear hK K) | (refine wp_blk_load rfl rfl X ?_; refine hK _ _ ?_; clear hK K) | (refine wp_blk_load rfl rfl Y ?_; refine hK _ _ ?_; clear hK K) | (refine wp_rw_load (P := Try.prog) U Try.underlying25 rfl infoNd_size rfl rfl ?_; refine hK _ _ ?_; clear hK K) | refine wp_rw_alloc (P := Try.prog) (t := 25) (ndV zNd) infoNd_zero rfl ?_)
    intro w14 Y14 c14 s14
    refine hK _ _ ?_
    clear hK K
    go_wp2_with (refine wp_want rfl fun K hK => ?_; first | (refine wp_rw_load (P := Try.prog) N Try.underlying25 rfl infoNd_size rfl rfl ?_; refine hK _ _ ?_; clear hK K) | (refine wp_blk_load rfl rfl Q ?_; refine hK _ _ ?_; clear hK K) | (refine wp_blk_load rfl rfl X ?_; refine hK _ _ ?_; clear hK K) | (refine wp_blk_load rfl rfl Y ?_; refine hK _ _ ?_; clear hK K) | (refine wp_rw_load (P := Try.prog) U Try.underlying25 rfl infoNd_size rfl rfl ?_; refine hK _ _ ?_; clear hK K) | refine wp_rw_store (P := Try.prog) (cs := ndA y) Y14 infoNd_size rfl (ndA_all _) rfl rfl rfl ?_)
    intro w15 Z15 g15 z15
    refine hK _ _ ?_
    clear hK K
    have d15 := below_row c14 g15 c14.size (Nat.le_refl _)
    have lVN := RowAt.lt N
    have lVQ := Q.lt
    have lVX := X.lt
    have lVY := Y.lt
    have lVU := RowAt.lt U
    have N := RowAt.later N d15
    have Q := Q.later d15
    have X := X.later d15
    have Y := Y.later d15
    have U := RowAt.later U d15
    have W := W.trans (d15.mono W.size)
    have V := Z15
    clear Y14 c14 s14 Z15 g15 z15 d15
    go_upto_region 9 with fail
    obtain ⟨wz, hwz⟩ : ∃ w, w = World.drew w15 := ⟨_, rfl⟩
    have hdr : Below w15.heap.size w15 wz := by rw [hwz]; exact (Below.refl _ _).drew
    have N := RowAt.later N hdr
    have Q := Q.later hdr
    have X := X.later hdr
    have Y := Y.later hdr
    have U := RowAt.later U hdr
    have V := RowAt.later V hdr
    have W := W.trans (hdr.mono W.size)
    have hzz : Below wz.heap.size wz (World.drew w15) := by rw [← hwz]; exact Below.refl _ _
    have xN : ∀ x : Zig.Lt (fun W => Below wz.heap.size wz W), (loadVar 25 ⟨w.heap.size, 0, none⟩).run Try.prog x.1 = .ok (ndV n) x.1 := fun x => run_rw_load (P := Try.prog) (RowAt.later N x.2) Try.underlying25 rfl infoNd_size
    have xU : ∀ x : Zig.Lt (fun W => Below wz.heap.size wz W), (loadVar 25 ⟨w10.heap.size, 0, none⟩).run Try.prog x.1 = .ok (ndV y) x.1 := fun x => run_rw_load (P := Try.prog) (RowAt.later U x.2) Try.underlying25 rfl infoNd_size
    have xV : ∀ x : Zig.Lt (fun W => Below wz.heap.size wz W), (loadVar 25 ⟨w13.heap.size, 0, none⟩).run Try.prog x.1 = .ok (ndV y) x.1 := fun x => run_rw_load (P := Try.prog) (RowAt.later V x.2) Try.underlying25 rfl infoNd_size
    have xX : ∀ x : Zig.Lt (fun W => Below wz.heap.size wz W), (loadVar 28 ⟨w4.heap.size, 0, none⟩).run Try.prog x.1 = .ok (blkV kn bn) x.1 := fun x => run_blk_load (X.later x.2)
    have xY : ∀ x : Zig.Lt (fun W => Below wz.heap.size wz W), (loadVar 28 ⟨w7.heap.size, 0, none⟩).run Try.prog x.1 = .ok (blkV kn bn) x.1 := fun x => run_blk_load (Y.later x.2)
    have q1 : ∀ w, (binOp .eql 25 (ndV y) (ndV y)).run Try.prog w = .ok (.bool true) w := eq_nd true y y (decide_eq_true rfl)
    have q2 : ∀ a b w, (eqGuard .eql 25 a b (ndV y) (ndV y)).run Try.prog w = .ok () w := guard_nd y y
    have q3 := eql_blkN kn bn hl
    have q4 := guard_blkN kn bn
    have hM3 : ∀ w, Calls Try.prog 20 #[.int .i64 kind, ndV n] w fun e w' => e = .returned (.bool mn) ∧ Below w.heap.size w w' := hM
    have hM4 : ∀ w, Calls Try.prog 21 #[.int .i64 kind, ndV n] w fun e w' => e = .returned (.bool mn) ∧ Below w.heap.size w w' := hM2
    clear hM hM2 hT hT2 hP hP2 N Q X Y U V hwz
    generalize ndV y = vy at *
    generalize blkV kn bn = vb at *
    generalize ndV n = vn at *
    refine Zig.wp_region_zig [(false, 0), (false, 1), (false, 3), (false, 4), (true, 2), (true, 5), (false, 6), (false, 7), (false, 8), (false, 9), (false, 10), (false, 11), (false, 12), (false, 13), (false, 14), (false, 15), (false, 16), (false, 17), (false, 18), (false, 19), (false, 20), (false, 21), (false, 22), (false, 23), (false, 24), (false, 25), (false, 26), (false, 27)] (fun W => Below wz.heap.size wz W) (by kernel_rfl) (by kernel_rfl) hzz ?_
    simp only [Zig.sel, List.drop_succ_cons, List.drop_zero]
    generalize World.drew w15 = wd at *
    haveI : Nonempty (Zig.Lt (fun W => Below wz.heap.size wz W)) := ⟨⟨wd, hzz⟩⟩
    repeat (first | refine Zig.zig_load xN rfl rfl rfl ?_ | (refine Zig.zig_step (fun K hK => ?_); go_simp; refine hK _ ?_; clear hK K))
    refine Zig.zig_do rfl (fun K hK => ?_)
    unfold Oper.wp
    go_simp
    refine (hM3 _).mono ?_
    rintro e wc ⟨rfl, bc⟩
    have bc := hzz.trans (bc.mono hzz.size)
    refine hK _ _ bc ?_
    clear hK K
    refine Zig.zig_do rfl (fun K hK => ?_)
    unfold Oper.wp
    go_simp
    refine (hM4 _).mono ?_
    rintro e we ⟨rfl, be⟩
    have be := bc.trans (be.mono bc.size)
    refine hK _ _ be ?_
    clear hK K
    have em : (mn == mn) = true := beq_self_eq_true mn
    have eg : (gd == gd) = true := beq_self_eq_true gd
    repeat (first | refine Zig.zig_load xX rfl rfl rfl ?_ | refine Zig.zig_load xY rfl rfl rfl ?_ | refine Zig.zig_load xU rfl rfl rfl ?_ | refine Zig.zig_load xV rfl rfl rfl ?_ | refine Zig.zig_bin q2 q1 rfl rfl rfl rfl ?_ | refine Zig.zig_bin q4 q3 rfl rfl rfl rfl ?_ | (refine Zig.zig_step (fun K hK => ?_); go_simp; refine hK _ ?_; clear hK K))
    refine Zig.zig_nil ?_
    have W := W.trans (be.mono W.size)
    go_wp2_with fail
    go_ret
    exact ⟨rfl, W⟩
  · have hI : (60 : Int) < (n.s.length : Int) := by omega
    go_enter Try.func3, Try.ntmps3
    go_wp2_with (refine wp_want rfl fun K hK => ?_; first | refine wp_rw_box (P := Try.prog) (t := 25) (ndA n) rfl rfl ?_)
    intro w1 Nx b1 s1
    refine hK _ _ ?_
    clear hK K
    have W := b1
    have N := Nx
    clear Nx s1
    have lQN := RowAt.lt N
    go_wp2_with (refine wp_want rfl fun K hK => ?_; first | (refine wp_rw_load (P := Try.prog) N Try.underlying25 rfl infoNd_size rfl rfl ?_; refine hK _ _ ?_; clear hK K) | refine wp_blk_box rfl rfl hb ?_)
    intro w2 Qx b2 s2
    refine hK _ _ ?_
    clear hK K
    have N := RowAt.later N b2
    have W := W.trans (b2.mono W.size)
    have Q := Qx
    clear Qx s2
    go_wp2_with (refine wp_want rfl fun K hK => ?_; first | (refine wp_rw_load (P := Try.prog) N Try.underlying25 rfl infoNd_size rfl rfl ?_; refine hK _ _ ?_; clear hK K) | (refine wp_blk_load rfl rfl Q ?_; refine hK _ _ ?_; clear hK K))
    refine (hB _).mono ?_
    rintro e w3 ⟨rfl, b3⟩
    have N := RowAt.later N b3
    have Q := Q.later b3
    have W := W.trans (b3.mono W.size)
    clear b3
    have c8 := RowAt.cell N 8 (str n.s) rfl
    go_wp2_with (refine wp_want rfl fun K hK => ?_; first | (refine wp_rw_load (P := Try.prog) N Try.underlying25 rfl infoNd_size rfl rfl ?_; refine hK _ _ ?_; clear hK K) | (refine wp_blk_load rfl rfl Q ?_; refine hK _ _ ?_; clear hK K))
    go_ret
    exact ⟨rfl, W⟩
end Go.Proofs.Ytgeiafijibgdhaa.Cl
