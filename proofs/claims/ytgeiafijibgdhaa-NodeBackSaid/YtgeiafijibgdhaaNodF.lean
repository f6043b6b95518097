/- The law NodeBack. -/
import Derived.Test.YtgeiafijibgdhaaNodE
set_option linter.unusedVariables false
set_option linter.unusedSimpArgs false
namespace Go.Proofs.Ytgeiafijibgdhaa.Cl
open Go Go.Proofs Go.RowKit Fl Rely

theorem zNd_ok : NdOk zNd := ⟨by decide, by unfold I64 zNd; decide, by unfold I64 zNd; decide, by unfold I64 zNd; decide, by unfold I64 zNd; decide, by unfold I64 zNd; decide, by unfold I64 zNd; decide, by unfold I64 zNd; decide, by decide⟩
theorem u8_xorN (a b : UInt8) : bits .xor .u8 (a.toNat : Int) (b.toNat : Int) = ((a ^^^ b).toNat : Int) := by
  have h1 := a.toNat_lt
  have h2 := b.toNat_lt
  have hx : a.toNat ^^^ b.toNat < 2 ^ 8 := Nat.xor_lt_two_pow (by omega) (by omega)
  show IntKind.u8.wrap ((BitVec.ofInt 8 (a.toNat : Int) ^^^ BitVec.ofInt 8 (b.toNat : Int)).toNat : Int) = _
  rw [BitVec.toNat_xor, ofInt_nat 8 _ (by omega), ofInt_nat 8 _ (by omega), IntKind.wrap_u8, UInt8.toNat_xor]
  omega
set_option maxRecDepth 100000 in
set_option maxHeartbeats 8000000 in
theorem ndBack_law (kind : Int) (n : Nd) (at_ by' : UInt8) (w : World) (ok : n.s.length ≤ 1000000 → NdOk n) : Calls Try.prog 4 #[.int .i64 kind, ndV n, u8 at_, u8 by'] w fun e w' => e = .returned (.bool true) ∧ Below w.heap.size w w' := by
  have hB := ndBegun_any
  by_cases h60 : n.s.length ≤ 60
  · skip
    have ok := ok (by omega)
    have hI : ¬ (60 : Int) < (n.s.length : Int) := by omega
    have hP := fun w => ndPut_any kind n w ok
    have hM := fun w => ndMay_any kind n w ok
    by_cases hm : mayN kind n
    · skip
      have hgo := ndO_own ok hm
      have hl := ndBody_length (kind := kind) (n := n)
      have hT := fun w => ndTake_any kind (ndBody kind n) w hl
      rw [hgo] at hT
      have hr := readNd_own ok hm
      rw [decide_eq_true hm] at hP hM
      rw [show ndK kind n = kind by unfold ndK; rw [if_pos hm]] at hP
      obtain ⟨j, hj⟩ : ∃ j, j = at_.toNat % 56 := ⟨_, rfl⟩
      have hj56 : j < 56 := by rw [hj]; exact Nat.mod_lt _ (by decide)
      have hrem : at_.toNat % 56 = j := hj.symm
      have hremI : (at_.toNat : Int) % 56 = (j : Int) := by omega
      have hjI : (j : Int) < 56 := by omega
      clear hj
      obtain ⟨eb, heb⟩ : ∃ eb, eb = ndBody kind n := ⟨_, rfl⟩
      rw [← heb] at hl hT hP
      have hjl : j < eb.length := by omega
      obtain ⟨cb, hcb⟩ : ∃ cb, cb = eb.set j (eb[j] ^^^ by') := ⟨_, rfl⟩
      have hcl : cb.length = 56 := by rw [hcb, List.length_set]; exact hl
      have hT2 := fun w => ndTake_any kind cb w hcl
      obtain ⟨y, hy⟩ : ∃ y, y = if goodN kind cb then readNd cb else zNd := ⟨_, rfl⟩
      have oky : NdOk y := by
        rw [hy]
        split
        · exact readNd_ok cb hcl
        · exact zNd_ok
      have hP2 := fun w => ndPut_any kind y w oky
      have hyl := ndBody_length (kind := kind) (n := y)
      rw [show ndO kind cb = .tuple #[ndV y, .bool (decide (goodN kind cb))] by rw [hy]; rfl] at hT2
      have e0 : ((by'.toNat : Int) == 0) = decide (by' = 0) := by
        rw [Bool.eq_iff_iff, beq_iff_eq, decide_eq_true_iff]
        exact ⟨fun h => UInt8.toNat_inj.1 (by simpa using h), fun h => by rw [h]; rfl⟩
      have hyes : goodN kind cb → mayN kind y ∧ ndBody kind y = cb ∧ ndK kind y = kind ∧ decide (y = n) = decide (by' = 0) := fun h => by
        rw [if_pos h] at hy
        obtain ⟨f1, f3⟩ := h
        rw [← hy] at f1 f3
        refine ⟨f1, f3, by unfold ndK; rw [if_pos f1], ?_⟩
        rw [Bool.eq_iff_iff, decide_eq_true_iff, decide_eq_true_iff]
        constructor
        · intro hyn
          rw [hyn, ← heb, hcb] at f3
          have := congrArg (fun l => l[j]?) f3.symm
          simp only [List.getElem?_set_self hjl, List.getElem?_eq_getElem hjl, Option.some.injEq] at this
          have := congrArg (fun t => eb[j] ^^^ t) this
          simpa [← UInt8.xor_assoc] using this
        · intro hz
          rw [hz, UInt8.xor_zero, List.set_getElem_self, heb] at hcb
          rw [hy, hcb, hr]
      have hxor := u8_xorN eb[j] by'
      obtain ⟨xj, hxj⟩ : ∃ x, x = eb[j] ^^^ by' := ⟨_, rfl⟩
      rw [← hxj] at hxor hcb
      have Hcb := Lib.hid hcb
      have Hyes := Lib.hid hyes
      clear hcb hy hyes hgo hr hm heb hxj oky
      go_enter Try.func4, Try.ntmps4
      go_wp2_with (refine wp_want rfl fun K hK => ?_; first | refine wp_rw_box (P := Try.prog) (t := 25) (ndA n) rfl rfl ?_)
      intro w1 Nx b1 s1
      refine hK _ _ ?_
      clear hK K
      have W := b1
      have N := Nx
      clear Nx s1
      go_wp2_with (refine wp_want rfl fun K hK => ?_; first | (refine wp_rw_load (P := Try.prog) N Try.underlying25 rfl infoNd_size rfl rfl ?_; refine hK _ _ ?_; clear hK K))
      refine (hB _).mono ?_
      rintro e w2 ⟨rfl, b2⟩
      have N := RowAt.later N b2
      have W := W.trans (b2.mono W.size)
      clear b2
      have c8 := RowAt.cell N 8 (str n.s) rfl
      go_wp2_with (refine wp_want rfl fun K hK => ?_; first | (refine wp_rw_load (P := Try.prog) N Try.underlying25 rfl infoNd_size rfl rfl ?_; refine hK _ _ ?_; clear hK K))
      refine (hP _).mono ?_
      rintro e w3 ⟨rfl, b3⟩
      have N := RowAt.later N b3
      have W := W.trans (b3.mono W.size)
      clear b3
      clear c8
      have nnB := W.size
      go_wp2_with (refine wp_want rfl fun K hK => ?_; first | (refine wp_rw_load (P := Try.prog) N Try.underlying25 rfl infoNd_size rfl rfl ?_; refine hK _ _ ?_; clear hK K) | refine wp_blk_alloc rfl ?_)
      intro w4 Y4 c4 s4
      refine hK _ _ ?_
      clear hK K
      go_wp2_with (refine wp_want rfl fun K hK => ?_; first | (refine wp_rw_load (P := Try.prog) N Try.underlying25 rfl infoNd_size rfl rfl ?_; refine hK _ _ ?_; clear hK K) | refine wp_blk_store rfl rfl rfl hl Y4 ?_)
      intro w5 Z5 g5 z5
      refine hK _ _ ?_
      clear hK K
      have d5 := below_row c4 g5 c4.size (Nat.le_refl _)
      have lBN := RowAt.lt N
      have N := RowAt.later N d5
      have W := W.trans (d5.mono W.size)
      have B := Z5
      clear Y4 c4 s4 Z5 g5 z5 d5
      go_wp2_with (refine wp_want rfl fun K hK => ?_; first | (refine wp_rw_load (P := Try.prog) N Try.underlying25 rfl infoNd_size rfl rfl ?_; refine hK _ _ ?_; clear hK K) | (refine wp_blk_load rfl rfl B ?_; refine hK _ _ ?_; clear hK K))
      refine (hM _).mono ?_
      rintro e w6 ⟨rfl, b6⟩
      have N := RowAt.later N b6
      have B := B.later b6
      have W := W.trans (b6.mono W.size)
      clear b6
      go_wp2_with (refine wp_want rfl fun K hK => ?_; first | (refine wp_rw_load (P := Try.prog) N Try.underlying25 rfl infoNd_size rfl rfl ?_; refine hK _ _ ?_; clear hK K) | (refine wp_blk_load rfl rfl B ?_; refine hK _ _ ?_; clear hK K))
      refine (hT _).mono ?_
      rintro e w7 ⟨rfl, b7⟩
      have N := RowAt.later N b7
      have B := B.later b7
      have W := W.trans (b7.mono W.size)
      clear b7
      have nnC := W.size
      go_wp2_with (refine wp_want rfl fun K hK => ?_; first | (refine wp_rw_load (P := Try.prog) N Try.underlying25 rfl infoNd_size rfl rfl ?_; refine hK _ _ ?_; clear hK K) | (refine wp_blk_load rfl rfl B ?_; refine hK _ _ ?_; clear hK K) | refine wp_rw_alloc (P := Try.prog) (t := 25) (ndV zNd) infoNd_zero rfl ?_)
      intro w8 Y8 c8 s8
      refine hK _ _ ?_
      clear hK K
      go_wp2_with (refine wp_want rfl fun K hK => ?_; first | (refine wp_rw_load (P := Try.prog) N Try.underlying25 rfl infoNd_size rfl rfl ?_; refine hK _ _ ?_; clear hK K) | (refine wp_blk_load rfl rfl B ?_; refine hK _ _ ?_; clear hK K) | refine wp_rw_store (P := Try.prog) (cs := ndA n) Y8 infoNd_size rfl (ndA_all _) rfl rfl rfl ?_)
      intro w9 Z9 g9 z9
      refine hK _ _ ?_
      clear hK K
      have d9 := below_row c8 g9 c8.size (Nat.le_refl _)
      have lCN := RowAt.lt N
      have lCB := B.lt
      have N := RowAt.later N d9
      have B := B.later d9
      have W := W.trans (d9.mono W.size)
      have C := Z9
      clear Y8 c8 s8 Z9 g9 z9 d9
      have nnD := W.size
      go_wp2_with (refine wp_want rfl fun K hK => ?_; first | (refine wp_rw_load (P := Try.prog) N Try.underlying25 rfl infoNd_size rfl rfl ?_; refine hK _ _ ?_; clear hK K) | (refine wp_blk_load rfl rfl B ?_; refine hK _ _ ?_; clear hK K) | (refine wp_rw_load (P := Try.prog) C Try.underlying25 rfl infoNd_size rfl rfl ?_; refine hK _ _ ?_; clear hK K) | refine wp_blk_alloc rfl ?_)
      intro w10 Y10 c10 s10
      refine hK _ _ ?_
      clear hK K
      go_wp2_with (refine wp_want rfl fun K hK => ?_; first | (refine wp_rw_load (P := Try.prog) N Try.underlying25 rfl infoNd_size rfl rfl ?_; refine hK _ _ ?_; clear hK K) | (refine wp_blk_load rfl rfl B ?_; refine hK _ _ ?_; clear hK K) | (refine wp_rw_load (P := Try.prog) C Try.underlying25 rfl infoNd_size rfl rfl ?_; refine hK _ _ ?_; clear hK K) | refine wp_blk_store rfl rfl rfl hl Y10 ?_)
      intro w11 Z11 g11 z11
      refine hK _ _ ?_
      clear hK K
      have d11 := below_row c10 g11 c10.size (Nat.le_refl _)
      have lDN := RowAt.lt N
      have lDB := B.lt
      have lDC := RowAt.lt C
      have N := RowAt.later N d11
      have B := B.later d11
      have C := RowAt.later C d11
      have W := W.trans (d11.mono W.size)
      have D := Z11
      clear Y10 c10 s10 Z11 g11 z11 d11
      have cj := D.byte hjl
      have fj := D.frozen (i := 1 + j)
      obtain ⟨D2, gD, zD⟩ := D.setByte j xj (.int .u8 (xj.toNat : Nat)) rfl
      rw [← Hcb.out] at D2
      have N := RowAt.grown N gD (by omega)
      have B := B.grown gD (by omega)
      have C := RowAt.grown C gD (by omega)
      have W := below_row W gD W.size (by have := b1.size; omega)
      clear D zD gD
      have D := D2
      clear D2
      go_upto_region 11 with fail
      generalize World.setCell _ ⟨w9.heap.size, 1 + j, none⟩ (.int .u8 (xj.toNat : Nat)) = wd at *
      clear cj fj hxor hremI hrem hjI
      have kB := B.kind
      go_wp2_with (refine wp_want rfl fun K hK => ?_; first | (refine wp_rw_load (P := Try.prog) N Try.underlying25 rfl infoNd_size rfl rfl ?_; refine hK _ _ ?_; clear hK K) | (refine wp_blk_load rfl rfl B ?_; refine hK _ _ ?_; clear hK K) | (refine wp_rw_load (P := Try.prog) C Try.underlying25 rfl infoNd_size rfl rfl ?_; refine hK _ _ ?_; clear hK K) | (refine wp_blk_load rfl rfl D ?_; refine hK _ _ ?_; clear hK K))
      refine (hT2 _).mono ?_
      rintro e w12 ⟨rfl, b12⟩
      have N := RowAt.later N b12
      have B := B.later b12
      have C := RowAt.later C b12
      have D := D.later b12
      have W := W.trans (b12.mono W.size)
      clear b12
      have nnE := W.size
      go_wp2_with (refine wp_want rfl fun K hK => ?_; first | (refine wp_rw_load (P := Try.prog) N Try.underlying25 rfl infoNd_size rfl rfl ?_; refine hK _ _ ?_; clear hK K) | (refine wp_blk_load rfl rfl B ?_; refine hK _ _ ?_; clear hK K) | (refine wp_rw_load (P := Try.prog) C Try.underlying25 rfl infoNd_size rfl rfl ?_; refine hK _ _ ?_; clear hK K) | (refine wp_blk_load rfl rfl D ?_; refine hK _ _ ?_; clear hK K) | refine wp_rw_alloc (P := Try.prog) (t := 25) (ndV zNd) infoNd_zero rfl ?_)
      intro w13 Y13 c13 s13
      refine hK _ _ ?_
      clear hK K
      go_wp2_with (refine wp_want rfl fun K hK => ?_; first | (refine wp_rw_load (P := Try.prog) N Try.underlying25 rfl infoNd_size rfl rfl ?_; refine hK _ _ ?_; clear hK K) | (refine wp_blk_load rfl rfl B ?_; refine hK _ _ ?_; clear hK K) | (refine wp_rw_load (P := Try.prog) C Try.underlying25 rfl infoNd_size rfl rfl ?_; refine hK _ _ ?_; clear hK K) | (refine wp_blk_load rfl rfl D ?_; refine hK _ _ ?_; clear hK K) | refine wp_rw_store (P := Try.prog) (cs := ndA y) Y13 infoNd_size rfl (ndA_all _) rfl rfl rfl ?_)
      intro w14 Z14 g14 z14
      refine hK _ _ ?_
      clear hK K
      have d14 := below_row c13 g14 c13.size (Nat.le_refl _)
      have lEN := RowAt.lt N
      have lEB := B.lt
      have lEC := RowAt.lt C
      have lED := D.lt
      have N := RowAt.later N d14
      have B := B.later d14
      have C := RowAt.later C d14
      have D := D.later d14
      have W := W.trans (d14.mono W.size)
      have E := Z14
      clear Y13 c13 s13 Z14 g14 z14 d14
      go_wp2_with (refine wp_want rfl fun K hK => ?_; first | (refine wp_rw_load (P := Try.prog) N Try.underlying25 rfl infoNd_size rfl rfl ?_; refine hK _ _ ?_; clear hK K) | (refine wp_blk_load rfl rfl B ?_; refine hK _ _ ?_; clear hK K) | (refine wp_rw_load (P := Try.prog) C Try.underlying25 rfl infoNd_size rfl rfl ?_; refine hK _ _ ?_; clear hK K) | (refine wp_blk_load rfl rfl D ?_; refine hK _ _ ?_; clear hK K) | (refine wp_rw_load (P := Try.prog) E Try.underlying25 rfl infoNd_size rfl rfl ?_; refine hK _ _ ?_; clear hK K))
      refine (hP2 _).mono ?_
      rintro e w15 ⟨rfl, b15⟩
      have N := RowAt.later N b15
      have B := B.later b15
      have C := RowAt.later C b15
      have D := D.later b15
      have E := RowAt.later E b15
      have W := W.trans (b15.mono W.size)
      clear b15
      have nnG := W.size
      go_wp2_with (refine wp_want rfl fun K hK => ?_; first | (refine wp_rw_load (P := Try.prog) N Try.underlying25 rfl infoNd_size rfl rfl ?_; refine hK _ _ ?_; clear hK K) | (refine wp_blk_load rfl rfl B ?_; refine hK _ _ ?_; clear hK K) | (refine wp_rw_load (P := Try.prog) C Try.underlying25 rfl infoNd_size rfl rfl ?_; refine hK _ _ ?_; clear hK K) | (refine wp_blk_load rfl rfl D ?_; refine hK _ _ ?_; clear hK K) | (refine wp_rw_load (P := Try.prog) E Try.underlying25 rfl infoNd_size rfl rfl ?_; refine hK _ _ ?_; clear hK K) | refine wp_blk_alloc rfl ?_)
      intro w16 Y16 c16 s16
      refine hK _ _ ?_
      clear hK K
      go_wp2_with (refine wp_want rfl fun K hK => ?_; first | (refine wp_rw_load (P := Try.prog) N Try.underlying25 rfl infoNd_size rfl rfl ?_; refine hK _ _ ?_; clear hK K) | (refine wp_blk_load rfl rfl B ?_; refine hK _ _ ?_; clear hK K) | (refine wp_rw_load (P := Try.prog) C Try.underlying25 rfl infoNd_size rfl rfl ?_; refine hK _ _ ?_; clear hK K) | (refine wp_blk_load rfl rfl D ?_; refine hK _ _ ?_; clear hK K) | (refine wp_rw_load (P := Try.prog) E Try.underlying25 rfl infoNd_size rfl rfl ?_; refine hK _ _ ?_; clear hK K) | refine wp_blk_store rfl rfl rfl hyl Y16 ?_)
      intro w17 Z17 g17 z17
      refine hK _ _ ?_
      clear hK K
      have d17 := below_row c16 g17 c16.size (Nat.le_refl _)
      have lGN := RowAt.lt N
      have lGB := B.lt
      have lGC := RowAt.lt C
      have lGD := D.lt
      have lGE := RowAt.lt E
      have N := RowAt.later N d17
      have B := B.later d17
      have C := RowAt.later C d17
      have D := D.later d17
      have E := RowAt.later E d17
      have W := W.trans (d17.mono W.size)
      have G := Z17
      clear Y16 c16 s16 Z17 g17 z17 d17
      have kB := B.kind
      have q1 := eq_nd true n n (decide_eq_true rfl)
      have q0 := guard_nd n n
      by_cases hgd : goodN kind cb
      · skip
        obtain ⟨f1, f2, f3, f4⟩ := Hyes.out hgd
        have hbe : decide (ndK kind y = kind ∧ ndBody kind y = cb) = true := decide_eq_true ⟨f3, f2⟩
        have F4 := Lib.hid f4
        rw [decide_eq_true f1, decide_eq_true hgd]
        clear hgd hT2 hP2 f1 f2 f3 f4
        cases hz : decide (by' = 0)
        · skip
          rw [hz] at e0
          have hyn : decide (y = n) = false := by rw [F4.out, hz]
          clear hz
          have q2 := eq_nd false y n hyn
          have q3 := guard_nd y n
          clear hyn
          go_wp2_with (refine wp_want rfl fun K hK => ?_; first | (refine wp_rw_load (P := Try.prog) N Try.underlying25 rfl infoNd_size rfl rfl ?_; refine hK _ _ ?_; clear hK K) | (refine wp_blk_load rfl rfl B ?_; refine hK _ _ ?_; clear hK K) | (refine wp_rw_load (P := Try.prog) C Try.underlying25 rfl infoNd_size rfl rfl ?_; refine hK _ _ ?_; clear hK K) | (refine wp_blk_load rfl rfl D ?_; refine hK _ _ ?_; clear hK K) | (refine wp_rw_load (P := Try.prog) E Try.underlying25 rfl infoNd_size rfl rfl ?_; refine hK _ _ ?_; clear hK K) | (refine wp_blk_load rfl rfl G ?_; refine hK _ _ ?_; clear hK K) | (refine wp_blk_eqlR true hbe rfl rfl rfl hyl hcl ?_; refine hK _ _ ?_; clear hK K))
          go_ret
          exact ⟨rfl, W⟩
        · skip
          rw [hz] at e0
          have hyn : decide (y = n) = true := by rw [F4.out, hz]
          clear hz
          have q2 := eq_nd true y n hyn
          have q3 := guard_nd y n
          clear hyn
          go_wp2_with (refine wp_want rfl fun K hK => ?_; first | (refine wp_rw_load (P := Try.prog) N Try.underlying25 rfl infoNd_size rfl rfl ?_; refine hK _ _ ?_; clear hK K) | (refine wp_blk_load rfl rfl B ?_; refine hK _ _ ?_; clear hK K) | (refine wp_rw_load (P := Try.prog) C Try.underlying25 rfl infoNd_size rfl rfl ?_; refine hK _ _ ?_; clear hK K) | (refine wp_blk_load rfl rfl D ?_; refine hK _ _ ?_; clear hK K) | (refine wp_rw_load (P := Try.prog) E Try.underlying25 rfl infoNd_size rfl rfl ?_; refine hK _ _ ?_; clear hK K) | (refine wp_blk_load rfl rfl G ?_; refine hK _ _ ?_; clear hK K) | (refine wp_blk_eqlR true hbe rfl rfl rfl hyl hcl ?_; refine hK _ _ ?_; clear hK K))
          go_ret
          exact ⟨rfl, W⟩
      · skip
        rw [decide_eq_false hgd]
        clear hT2 hgd
        go_wp2_with (refine wp_want rfl fun K hK => ?_; first | (refine wp_rw_load (P := Try.prog) N Try.underlying25 rfl infoNd_size rfl rfl ?_; refine hK _ _ ?_; clear hK K) | (refine wp_blk_load rfl rfl B ?_; refine hK _ _ ?_; clear hK K) | (refine wp_rw_load (P := Try.prog) C Try.underlying25 rfl infoNd_size rfl rfl ?_; refine hK _ _ ?_; clear hK K) | (refine wp_blk_load rfl rfl D ?_; refine hK _ _ ?_; clear hK K) | (refine wp_rw_load (P := Try.prog) E Try.underlying25 rfl infoNd_size rfl rfl ?_; refine hK _ _ ?_; clear hK K) | (refine wp_blk_load rfl rfl G ?_; refine hK _ _ ?_; clear hK K))
        go_ret
        exact ⟨rfl, W⟩
    · skip
      rw [decide_eq_false hm] at hP hM
      have hk : ndK kind n = 0 := by unfold ndK; rw [if_neg hm]
      have hb : ndBody kind n = Z56 := by unfold ndBody; rw [if_neg hm]
      rw [hk, hb] at hP
      clear hk hb hm
      go_enter Try.func4, Try.ntmps4
      go_wp2_with (refine wp_want rfl fun K hK => ?_; first | refine wp_rw_box (P := Try.prog) (t := 25) (ndA n) rfl rfl ?_)
      intro w1 Nx b1 s1
      refine hK _ _ ?_
      clear hK K
      have W := b1
      have N := Nx
      clear Nx s1
      go_wp2_with (refine wp_want rfl fun K hK => ?_; first | (refine wp_rw_load (P := Try.prog) N Try.underlying25 rfl infoNd_size rfl rfl ?_; refine hK _ _ ?_; clear hK K))
      refine (hB _).mono ?_
      rintro e w2 ⟨rfl, b2⟩
      have N := RowAt.later N b2
      have W := W.trans (b2.mono W.size)
      clear b2
      have c8 := RowAt.cell N 8 (str n.s) rfl
      go_wp2_with (refine wp_want rfl fun K hK => ?_; first | (refine wp_rw_load (P := Try.prog) N Try.underlying25 rfl infoNd_size rfl rfl ?_; refine hK _ _ ?_; clear hK K))
      refine (hP _).mono ?_
      rintro e w3 ⟨rfl, b3⟩
      have N := RowAt.later N b3
      have W := W.trans (b3.mono W.size)
      clear b3
      clear c8
      have nnB := W.size
      go_wp2_with (refine wp_want rfl fun K hK => ?_; first | (refine wp_rw_load (P := Try.prog) N Try.underlying25 rfl infoNd_size rfl rfl ?_; refine hK _ _ ?_; clear hK K) | refine wp_blk_alloc rfl ?_)
      intro w4 Y4 c4 s4
      refine hK _ _ ?_
      clear hK K
      go_wp2_with (refine wp_want rfl fun K hK => ?_; first | (refine wp_rw_load (P := Try.prog) N Try.underlying25 rfl infoNd_size rfl rfl ?_; refine hK _ _ ?_; clear hK K) | refine wp_blk_store rfl rfl rfl Z56_length Y4 ?_)
      intro w5 Z5 g5 z5
      refine hK _ _ ?_
      clear hK K
      have d5 := below_row c4 g5 c4.size (Nat.le_refl _)
      have lBN := RowAt.lt N
      have N := RowAt.later N d5
      have W := W.trans (d5.mono W.size)
      have B := Z5
      clear Y4 c4 s4 Z5 g5 z5 d5
      go_wp2_with (refine wp_want rfl fun K hK => ?_; first | (refine wp_rw_load (P := Try.prog) N Try.underlying25 rfl infoNd_size rfl rfl ?_; refine hK _ _ ?_; clear hK K) | (refine wp_blk_load rfl rfl B ?_; refine hK _ _ ?_; clear hK K))
      refine (hM _).mono ?_
      rintro e w6 ⟨rfl, b6⟩
      have N := RowAt.later N b6
      have B := B.later b6
      have W := W.trans (b6.mono W.size)
      clear b6
      go_wp2_with (refine wp_want rfl fun K hK => ?_; first | (refine wp_rw_load (P := Try.prog) N Try.underlying25 rfl infoNd_size rfl rfl ?_; refine hK _ _ ?_; clear hK K) | (refine wp_blk_load rfl rfl B ?_; refine hK _ _ ?_; clear hK K) | (refine wp_blk_build0 rfl ?_; refine hK _ _ ?_; clear hK K) | (refine wp_blk_eqlR true (decide_eq_true ⟨rfl, rfl⟩) rfl rfl rfl Z56_length Z56_length ?_; refine hK _ _ ?_; clear hK K))
      go_ret
      exact ⟨rfl, W⟩
  · have hI : (60 : Int) < (n.s.length : Int) := by omega
    go_enter Try.func4, Try.ntmps4
    go_wp2_with (refine wp_want rfl fun K hK => ?_; first | refine wp_rw_box (P := Try.prog) (t := 25) (ndA n) rfl rfl ?_)
    intro w1 Nx b1 s1
    refine hK _ _ ?_
    clear hK K
    have W := b1
    have N := Nx
    clear Nx s1
    go_wp2_with (refine wp_want rfl fun K hK => ?_; first | (refine wp_rw_load (P := Try.prog) N Try.underlying25 rfl infoNd_size rfl rfl ?_; refine hK _ _ ?_; clear hK K))
    refine (hB _).mono ?_
    rintro e w2 ⟨rfl, b2⟩
    have N := RowAt.later N b2
    have W := W.trans (b2.mono W.size)
    clear b2
    have c8 := RowAt.cell N 8 (str n.s) rfl
    go_wp2_with (refine wp_want rfl fun K hK => ?_; first | (refine wp_rw_load (P := Try.prog) N Try.underlying25 rfl infoNd_size rfl rfl ?_; refine hK _ _ ?_; clear hK K))
    go_ret
    exact ⟨rfl, W⟩
theorem ndBack_row (kind : Int) (n : Nd) (n1 n2 : Int) (W : World) (ok : n.s.length ≤ 1000000 → NdOk n) (wf1 : (Lit.int .u8 n1).wf = true) (wf2 : (Lit.int .u8 n2).wf = true) :
    Calls Try.prog 4 #[.int .i64 kind, ndV n, .int .u8 n1, .int .u8 n2] W fun e w' => e = .returned (.bool true) ∧ Below W.heap.size W w' := by
  obtain ⟨b1, rfl⟩ := wf_u8 wf1
  obtain ⟨b2, rfl⟩ := wf_u8 wf2
  exact ndBack_law kind n b1 b2 W ok
end Go.Proofs.Ytgeiafijibgdhaa.Cl
