/- The law EntryBack. -/
import Derived.Test.YtgeiafijibgdhaaEntB
set_option linter.unusedVariables false
set_option linter.unusedSimpArgs false
namespace Go.Proofs.Ytgeiafijibgdhaa.Cl
open Go Go.Proofs Go.RowKit Fl Rely

theorem eql_nm (r : Bool) {n m : Nm} (hr : decide (n = m) = r) : ∀ w, (binOp .eql 43 (.agg (nmA n)) (.agg (nmA m))).run Try.prog w = .ok (.bool r) w := fun w => by
  subst hr
  exact eq_nm n m w
theorem guard_nm (n m : Nm) : ∀ x y w, (eqGuard .eql 43 x y (.agg (nmA n)) (.agg (nmA m))).run Try.prog w = .ok () w := fun x y w => run_eqGuard_agg (P := Try.prog) w .eql _ x y _ _ guardNm
theorem u8_xor2 (a b : UInt8) : bits .xor .u8 (a.toNat : Int) (b.toNat : Int) = ((a ^^^ b).toNat : Int) := by
  have h1 := a.toNat_lt
  have h2 := b.toNat_lt
  have hx : a.toNat ^^^ b.toNat < 2 ^ 8 := Nat.xor_lt_two_pow (by omega) (by omega)
  show IntKind.u8.wrap ((BitVec.ofInt 8 (a.toNat : Int) ^^^ BitVec.ofInt 8 (b.toNat : Int)).toNat : Int) = _
  rw [BitVec.toNat_xor, ofInt_nat 8 _ (by omega), ofInt_nat 8 _ (by omega), IntKind.wrap_u8, UInt8.toNat_xor]
  omega
set_option maxRecDepth 100000 in
set_option maxHeartbeats 8000000 in
theorem entBack_law (n : Nm) (at_ by' : UInt8) (w : World) (ok : n.s.length ≤ 1000000 → NmOk n) : Calls Try.prog 7 #[nmV n, u8 at_, u8 by'] w fun e w' => e = .returned (.bool true) ∧ Below w.heap.size w w' := by
  have hB := entBegun_any
  by_cases h30 : n.s.length ≤ 30
  · skip
    have ok := ok (by omega)
    have hI : ¬ (30 : Int) < (n.s.length : Int) := by omega
    have hP := fun w => entPut_any n w ok
    have hM := fun w => entMay_any n w ok
    cases hm : mayNm n
    · skip
      rw [hm] at hP hM
      have hk : entK n = 0 := by unfold entK; rw [hm]; rfl
      have hb : entBody n = Z56 := by unfold entBody; rw [hm]; rfl
      rw [hk, hb] at hP
      clear hk hb hm
      go_enter Try.func7, Try.ntmps7
      go_wp2_with (refine wp_want rfl fun K hK => ?_; first | refine wp_rw_box (P := Try.prog) (t := 43) (nmA n) rfl rfl ?_)
      intro w1 Nx b1 s1
      refine hK _ _ ?_
      clear hK K
      have W := b1
      have N := Nx
      clear Nx s1
      go_wp2_with (refine wp_want rfl fun K hK => ?_; first | (refine wp_rw_load (P := Try.prog) N Try.underlying43 rfl infoNm_size rfl rfl ?_; refine hK _ _ ?_; clear hK K))
      refine (hB _).mono ?_
      rintro e w2 ⟨rfl, b2⟩
      have N := RowAt.later N b2
      have W := W.trans (b2.mono W.size)
      clear b2
      have c3 := RowAt.cell N 3 (str n.s) rfl
      go_wp2_with (refine wp_want rfl fun K hK => ?_; first | (refine wp_rw_load (P := Try.prog) N Try.underlying43 rfl infoNm_size rfl rfl ?_; refine hK _ _ ?_; clear hK K))
      refine (hP _).mono ?_
      rintro e w3 ⟨rfl, b3⟩
      have N := RowAt.later N b3
      have W := W.trans (b3.mono W.size)
      clear b3
      clear c3
      go_wp2_with (refine wp_want rfl fun K hK => ?_; first | (refine wp_rw_load (P := Try.prog) N Try.underlying43 rfl infoNm_size rfl rfl ?_; refine hK _ _ ?_; clear hK K) | refine wp_blk_alloc rfl ?_)
      intro w4 Y4 c4 s4
      refine hK _ _ ?_
      clear hK K
      go_wp2_with (refine wp_want rfl fun K hK => ?_; first | (refine wp_rw_load (P := Try.prog) N Try.underlying43 rfl infoNm_size rfl rfl ?_; refine hK _ _ ?_; clear hK K) | refine wp_blk_store rfl rfl rfl Z56_length Y4 ?_)
      intro w5 Z5 g5 z5
      refine hK _ _ ?_
      clear hK K
      have d5 := below_row c4 g5 c4.size (Nat.le_refl _)
      have lBN := RowAt.lt N
      have N := RowAt.later N d5
      have W := W.trans (d5.mono W.size)
      have B := Z5
      clear Y4 c4 s4 Z5 g5 z5 d5
      go_wp2_with (refine wp_want rfl fun K hK => ?_; first | (refine wp_rw_load (P := Try.prog) N Try.underlying43 rfl infoNm_size rfl rfl ?_; refine hK _ _ ?_; clear hK K) | (refine wp_blk_load rfl rfl B ?_; refine hK _ _ ?_; clear hK K))
      refine (hM _).mono ?_
      rintro e w6 ⟨rfl, b6⟩
      have N := RowAt.later N b6
      have B := B.later b6
      have W := W.trans (b6.mono W.size)
      clear b6
      go_wp2_with (refine wp_want rfl fun K hK => ?_; first | (refine wp_rw_load (P := Try.prog) N Try.underlying43 rfl infoNm_size rfl rfl ?_; refine hK _ _ ?_; clear hK K) | (refine wp_blk_load rfl rfl B ?_; refine hK _ _ ?_; clear hK K) | (refine wp_blk_build0 rfl ?_; refine hK _ _ ?_; clear hK K) | (refine wp_blk_eqlR true (decide_eq_true ⟨rfl, rfl⟩) rfl rfl rfl Z56_length Z56_length ?_; refine hK _ _ ?_; clear hK K))
      go_ret
      exact ⟨rfl, W⟩
    · skip
      have hg := goodE_own ok hm
      have hr := (readNm_own ok hm).1
      have hl := entBody_length n
      have hT := fun w => entTake_any 6 (entBody n) w hl
      unfold nmO at hT
      rw [hg, hr, if_pos rfl] at hT
      rw [hm] at hP hM
      rw [show entK n = 6 by unfold entK; rw [hm]; rfl] at hP
      obtain ⟨j, hj⟩ : ∃ j, j = at_.toNat % 56 := ⟨_, rfl⟩
      have hj56 : j < 56 := by rw [hj]; exact Nat.mod_lt _ (by decide)
      have hrem : at_.toNat % 56 = j := hj.symm
      have hremI : (at_.toNat : Int) % 56 = (j : Int) := by omega
      have hjI : (j : Int) < 56 := by omega
      clear hj
      obtain ⟨eb, heb⟩ : ∃ eb, eb = entBody n := ⟨_, rfl⟩
      rw [← heb] at hl hT hP
      have hjl : j < eb.length := by omega
      obtain ⟨cb, hcb⟩ : ∃ cb, cb = eb.set j (eb[j] ^^^ by') := ⟨_, rfl⟩
      have hcl : cb.length = 56 := by rw [hcb, List.length_set]; exact hl
      have hT2 := fun w => entTake_any 6 cb w hcl
      obtain ⟨y, hy⟩ : ∃ y, y = if goodE 6 cb then readNm cb else zNm := ⟨_, rfl⟩
      have oky : NmOk y := by
        rw [hy]
        split
        · exact readNm_ok cb hcl
        · exact ⟨by decide, by decide, by decide, by decide, by decide, by decide⟩
      have hP2 := fun w => entPut_any y w oky
      have hyl := entBody_length y
      unfold nmO at hT2
      rw [show (if goodE 6 cb = true then nmV (readNm cb) else nmV zNm) = nmV y by rw [hy]; split <;> rfl] at hT2
      have e0 : ((by'.toNat : Int) == 0) = decide (by' = 0) := by
        rw [Bool.eq_iff_iff, beq_iff_eq, decide_eq_true_iff]
        exact ⟨fun h => UInt8.toNat_inj.1 (by simpa using h), fun h => by rw [h]; rfl⟩
      have hyes : goodE 6 cb = true → mayNm y = true ∧ entBody y = cb ∧ entK y = 6 ∧ decide (y = n) = decide (by' = 0) := fun h => by
        rw [h, if_pos rfl] at hy
        obtain ⟨f1, _, f3⟩ := goodE_facts h
        rw [← hy] at f1 f3
        refine ⟨f1, f3.symm, by unfold entK; rw [f1]; rfl, ?_⟩
        rw [Bool.eq_iff_iff, decide_eq_true_iff, decide_eq_true_iff]
        constructor
        · intro hyn
          rw [hyn, ← heb, hcb] at f3
          have := congrArg (fun l => l[j]?) f3
          simp only [List.getElem?_set_self hjl, List.getElem?_eq_getElem hjl, Option.some.injEq] at this
          have := congrArg (fun t => eb[j] ^^^ t) this
          simpa [← UInt8.xor_assoc] using this
        · intro hz
          rw [hz, UInt8.xor_zero, List.set_getElem_self, heb] at hcb
          rw [hy, hcb, hr]
      have hxor := u8_xor2 eb[j] by'
      obtain ⟨xj, hxj⟩ : ∃ x, x = eb[j] ^^^ by' := ⟨_, rfl⟩
      rw [← hxj] at hxor hcb
      have Hcb := Lib.hid hcb
      have Hy := Lib.hid hy
      have Hyes := Lib.hid hyes
      clear hcb hy hyes hg hr hm heb hxj oky
      go_enter Try.func7, Try.ntmps7
      go_wp2_with (refine wp_want rfl fun K hK => ?_; first | refine wp_rw_box (P := Try.prog) (t := 43) (nmA n) rfl rfl ?_)
      intro w1 Nx b1 s1
      refine hK _ _ ?_
      clear hK K
      have W := b1
      have N := Nx
      clear Nx s1
      go_wp2_with (refine wp_want rfl fun K hK => ?_; first | (refine wp_rw_load (P := Try.prog) N Try.underlying43 rfl infoNm_size rfl rfl ?_; refine hK _ _ ?_; clear hK K))
      refine (hB _).mono ?_
      rintro e w2 ⟨rfl, b2⟩
      have N := RowAt.later N b2
      have W := W.trans (b2.mono W.size)
      clear b2
      have c3 := RowAt.cell N 3 (str n.s) rfl
      go_wp2_with (refine wp_want rfl fun K hK => ?_; first | (refine wp_rw_load (P := Try.prog) N Try.underlying43 rfl infoNm_size rfl rfl ?_; refine hK _ _ ?_; clear hK K))
      refine (hP _).mono ?_
      rintro e w3 ⟨rfl, b3⟩
      have N := RowAt.later N b3
      have W := W.trans (b3.mono W.size)
      clear b3
      clear c3
      go_wp2_with (refine wp_want rfl fun K hK => ?_; first | (refine wp_rw_load (P := Try.prog) N Try.underlying43 rfl infoNm_size rfl rfl ?_; refine hK _ _ ?_; clear hK K) | refine wp_blk_alloc rfl ?_)
      intro w4 Y4 c4 s4
      refine hK _ _ ?_
      clear hK K
      go_wp2_with (refine wp_want rfl fun K hK => ?_; first | (refine wp_rw_load (P := Try.prog) N Try.underlying43 rfl infoNm_size rfl rfl ?_; refine hK _ _ ?_; clear hK K) | refine wp_blk_store rfl rfl rfl hl Y4 ?_)
      intro w5 Z5 g5 z5
      refine hK _ _ ?_
      clear hK K
      have d5 := below_row c4 g5 c4.size (Nat.le_refl _)
      have lBN := RowAt.lt N
      have N := RowAt.later N d5
      have W := W.trans (d5.mono W.size)
      have B := Z5
      clear Y4 c4 s4 Z5 g5 z5 d5
      go_wp2_with (refine wp_want rfl fun K hK => ?_; first | (refine wp_rw_load (P := Try.prog) N Try.underlying43 rfl infoNm_size rfl rfl ?_; refine hK _ _ ?_; clear hK K) | (refine wp_blk_load rfl rfl B ?_; refine hK _ _ ?_; clear hK K))
      refine (hT _).mono ?_
      rintro e w6 ⟨rfl, b6⟩
      have N := RowAt.later N b6
      have B := B.later b6
      have W := W.trans (b6.mono W.size)
      clear b6
      go_wp2_with (refine wp_want rfl fun K hK => ?_; first | (refine wp_rw_load (P := Try.prog) N Try.underlying43 rfl infoNm_size rfl rfl ?_; refine hK _ _ ?_; clear hK K) | (refine wp_blk_load rfl rfl B ?_; refine hK _ _ ?_; clear hK K) | refine wp_rw_alloc (P := Try.prog) (t := 43) (nmV zNm) infoNm_zero rfl ?_)
      intro w7 Y7 c7 s7
      refine hK _ _ ?_
      clear hK K
      go_wp2_with (refine wp_want rfl fun K hK => ?_; first | (refine wp_rw_load (P := Try.prog) N Try.underlying43 rfl infoNm_size rfl rfl ?_; refine hK _ _ ?_; clear hK K) | (refine wp_blk_load rfl rfl B ?_; refine hK _ _ ?_; clear hK K) | refine wp_rw_store (P := Try.prog) (cs := nmA n) Y7 infoNm_size rfl (nmA_all _) rfl rfl rfl ?_)
      intro w8 Z8 g8 z8
      refine hK _ _ ?_
      clear hK K
      have d8 := below_row c7 g8 c7.size (Nat.le_refl _)
      have lCN := RowAt.lt N
      have lCB := B.lt
      have N := RowAt.later N d8
      have B := B.later d8
      have W := W.trans (d8.mono W.size)
      have C := Z8
      clear Y7 c7 s7 Z8 g8 z8 d8
      go_wp2_with (refine wp_want rfl fun K hK => ?_; first | (refine wp_rw_load (P := Try.prog) N Try.underlying43 rfl infoNm_size rfl rfl ?_; refine hK _ _ ?_; clear hK K) | (refine wp_blk_load rfl rfl B ?_; refine hK _ _ ?_; clear hK K) | (refine wp_rw_load (P := Try.prog) C Try.underlying43 rfl infoNm_size rfl rfl ?_; refine hK _ _ ?_; clear hK K) | refine wp_blk_alloc rfl ?_)
      intro w9 Y9 c9 s9
      refine hK _ _ ?_
      clear hK K
      go_wp2_with (refine wp_want rfl fun K hK => ?_; first | (refine wp_rw_load (P := Try.prog) N Try.underlying43 rfl infoNm_size rfl rfl ?_; refine hK _ _ ?_; clear hK K) | (refine wp_blk_load rfl rfl B ?_; refine hK _ _ ?_; clear hK K) | (refine wp_rw_load (P := Try.prog) C Try.underlying43 rfl infoNm_size rfl rfl ?_; refine hK _ _ ?_; clear hK K) | refine wp_blk_store rfl rfl rfl hl Y9 ?_)
      intro w10 Z10 g10 z10
      refine hK _ _ ?_
      clear hK K
      have d10 := below_row c9 g10 c9.size (Nat.le_refl _)
      have lDN := RowAt.lt N
      have lDB := B.lt
      have lDC := RowAt.lt C
      have N := RowAt.later N d10
      have B := B.later d10
      have C := RowAt.later C d10
      have W := W.trans (d10.mono W.size)
      have D := Z10
      clear Y9 c9 s9 Z10 g10 z10 d10
      have cj := D.byte hjl
      have fj := D.frozen (i := 1 + j)
      obtain ⟨D2, gD, zD⟩ := D.setByte j xj (.int .u8 (xj.toNat : Nat)) rfl
      rw [← Hcb.out] at D2
      have N := RowAt.grown N gD (by omega)
      have B := B.grown gD (by omega)
      have C := RowAt.grown C gD (by omega)
      have W := below_row W gD W.size (by have := b1.size; omega)
      clear D zD gD
      have D := D2
      clear D2
      go_upto_region 11 with fail
      generalize World.setCell _ ⟨w8.heap.size, 1 + j, none⟩ (.int .u8 (xj.toNat : Nat)) = wd at *
      clear cj fj hxor hremI hrem hjI
      go_wp2_with (refine wp_want rfl fun K hK => ?_; first | (refine wp_rw_load (P := Try.prog) N Try.underlying43 rfl infoNm_size rfl rfl ?_; refine hK _ _ ?_; clear hK K) | (refine wp_blk_load rfl rfl B ?_; refine hK _ _ ?_; clear hK K) | (refine wp_rw_load (P := Try.prog) C Try.underlying43 rfl infoNm_size rfl rfl ?_; refine hK _ _ ?_; clear hK K) | (refine wp_blk_load rfl rfl D ?_; refine hK _ _ ?_; clear hK K))
      refine (hT2 _).mono ?_
      rintro e w11 ⟨rfl, b11⟩
      have N := RowAt.later N b11
      have B := B.later b11
      have C := RowAt.later C b11
      have D := D.later b11
      have W := W.trans (b11.mono W.size)
      clear b11
      go_wp2_with (refine wp_want rfl fun K hK => ?_; first | (refine wp_rw_load (P := Try.prog) N Try.underlying43 rfl infoNm_size rfl rfl ?_; refine hK _ _ ?_; clear hK K) | (refine wp_blk_load rfl rfl B ?_; refine hK _ _ ?_; clear hK K) | (refine wp_rw_load (P := Try.prog) C Try.underlying43 rfl infoNm_size rfl rfl ?_; refine hK _ _ ?_; clear hK K) | (refine wp_blk_load rfl rfl D ?_; refine hK _ _ ?_; clear hK K) | refine wp_rw_alloc (P := Try.prog) (t := 43) (nmV zNm) infoNm_zero rfl ?_)
      intro w12 Y12 c12 s12
      refine hK _ _ ?_
      clear hK K
      go_wp2_with (refine wp_want rfl fun K hK => ?_; first | (refine wp_rw_load (P := Try.prog) N Try.underlying43 rfl infoNm_size rfl rfl ?_; refine hK _ _ ?_; clear hK K) | (refine wp_blk_load rfl rfl B ?_; refine hK _ _ ?_; clear hK K) | (refine wp_rw_load (P := Try.prog) C Try.underlying43 rfl infoNm_size rfl rfl ?_; refine hK _ _ ?_; clear hK K) | (refine wp_blk_load rfl rfl D ?_; refine hK _ _ ?_; clear hK K) | refine wp_rw_store (P := Try.prog) (cs := nmA y) Y12 infoNm_size rfl (nmA_all _) rfl rfl rfl ?_)
      intro w13 Z13 g13 z13
      refine hK _ _ ?_
      clear hK K
      have d13 := below_row c12 g13 c12.size (Nat.le_refl _)
      have lEN := RowAt.lt N
      have lEB := B.lt
      have lEC := RowAt.lt C
      have lED := D.lt
      have N := RowAt.later N d13
      have B := B.later d13
      have C := RowAt.later C d13
      have D := D.later d13
      have W := W.trans (d13.mono W.size)
      have E := Z13
      clear Y12 c12 s12 Z13 g13 z13 d13
      go_wp2_with (refine wp_want rfl fun K hK => ?_; first | (refine wp_rw_load (P := Try.prog) N Try.underlying43 rfl infoNm_size rfl rfl ?_; refine hK _ _ ?_; clear hK K) | (refine wp_blk_load rfl rfl B ?_; refine hK _ _ ?_; clear hK K) | (refine wp_rw_load (P := Try.prog) C Try.underlying43 rfl infoNm_size rfl rfl ?_; refine hK _ _ ?_; clear hK K) | (refine wp_blk_load rfl rfl D ?_; refine hK _ _ ?_; clear hK K) | (refine wp_rw_load (P := Try.prog) E Try.underlying43 rfl infoNm_size rfl rfl ?_; refine hK _ _ ?_; clear hK K))
      refine (hP2 _).mono ?_
      rintro e w14 ⟨rfl, b14⟩
      have N := RowAt.later N b14
      have B := B.later b14
      have C := RowAt.later C b14
      have D := D.later b14
      have E := RowAt.later E b14
      have W := W.trans (b14.mono W.size)
      clear b14
      go_wp2_with (refine wp_want rfl fun K hK => ?_; first | (refine wp_rw_load (P := Try.prog) N Try.underlying43 rfl infoNm_size rfl rfl ?_; refine hK _ _ ?_; clear hK K) | (refine wp_blk_load rfl rfl B ?_; refine hK _ _ ?_; clear hK K) | (refine wp_rw_load (P := Try.prog) C Try.underlying43 rfl infoNm_size rfl rfl ?_; refine hK _ _ ?_; clear hK K) | (refine wp_blk_load rfl rfl D ?_; refine hK _ _ ?_; clear hK K) | (refine wp_rw_load (P := Try.prog) E Try.underlying43 rfl infoNm_size rfl rfl ?_; refine hK _ _ ?_; clear hK K) | refine wp_blk_alloc rfl ?_)
      intro w15 Y15 c15 s15
      refine hK _ _ ?_
      clear hK K
      go_wp2_with (refine wp_want rfl fun K hK => ?_; first | (refine wp_rw_load (P := Try.prog) N Try.underlying43 rfl infoNm_size rfl rfl ?_; refine hK _ _ ?_; clear hK K) | (refine wp_blk_load rfl rfl B ?_; refine hK _ _ ?_; clear hK K) | (refine wp_rw_load (P := Try.prog) C Try.underlying43 rfl infoNm_size rfl rfl ?_; refine hK _ _ ?_; clear hK K) | (refine wp_blk_load rfl rfl D ?_; refine hK _ _ ?_; clear hK K) | (refine wp_rw_load (P := Try.prog) E Try.underlying43 rfl infoNm_size rfl rfl ?_; refine hK _ _ ?_; clear hK K) | refine wp_blk_store rfl rfl rfl hyl Y15 ?_)
      intro w16 Z16 g16 z16
      refine hK _ _ ?_
      clear hK K
      have d16 := below_row c15 g16 c15.size (Nat.le_refl _)
      have lGN := RowAt.lt N
      have lGB := B.lt
      have lGC := RowAt.lt C
      have lGD := D.lt
      have lGE := RowAt.lt E
      have N := RowAt.later N d16
      have B := B.later d16
      have C := RowAt.later C d16
      have D := D.later d16
      have E := RowAt.later E d16
      have W := W.trans (d16.mono W.size)
      have G := Z16
      clear Y15 c15 s15 Z16 g16 z16 d16
      go_wp2_with (refine wp_want rfl fun K hK => ?_; first | (refine wp_rw_load (P := Try.prog) N Try.underlying43 rfl infoNm_size rfl rfl ?_; refine hK _ _ ?_; clear hK K) | (refine wp_blk_load rfl rfl B ?_; refine hK _ _ ?_; clear hK K) | (refine wp_rw_load (P := Try.prog) C Try.underlying43 rfl infoNm_size rfl rfl ?_; refine hK _ _ ?_; clear hK K) | (refine wp_blk_load rfl rfl D ?_; refine hK _ _ ?_; clear hK K) | (refine wp_rw_load (P := Try.prog) E Try.underlying43 rfl infoNm_size rfl rfl ?_; refine hK _ _ ?_; clear hK K) | (refine wp_blk_load rfl rfl G ?_; refine hK _ _ ?_; clear hK K))
      refine (hM _).mono ?_
      rintro e w17 ⟨rfl, b17⟩
      have N := RowAt.later N b17
      have B := B.later b17
      have C := RowAt.later C b17
      have D := D.later b17
      have E := RowAt.later E b17
      have G := G.later b17
      have W := W.trans (b17.mono W.size)
      clear b17
      cases hgd : goodE 6 cb
      · skip
        clear hT2 hgd
        have q1 := eql_nm (n := n) (m := n) true (decide_eq_true rfl)
        have q0 := guard_nm n n
        go_wp2_with (refine wp_want rfl fun K hK => ?_; first | (refine wp_rw_load (P := Try.prog) N Try.underlying43 rfl infoNm_size rfl rfl ?_; refine hK _ _ ?_; clear hK K) | (refine wp_blk_load rfl rfl B ?_; refine hK _ _ ?_; clear hK K) | (refine wp_rw_load (P := Try.prog) C Try.underlying43 rfl infoNm_size rfl rfl ?_; refine hK _ _ ?_; clear hK K) | (refine wp_blk_load rfl rfl D ?_; refine hK _ _ ?_; clear hK K) | (refine wp_rw_load (P := Try.prog) E Try.underlying43 rfl infoNm_size rfl rfl ?_; refine hK _ _ ?_; clear hK K) | (refine wp_blk_load rfl rfl G ?_; refine hK _ _ ?_; clear hK K))
        go_ret
        exact ⟨rfl, W⟩
      · skip
        obtain ⟨f1, f2, f3, f4⟩ := Hyes.out hgd
        have F1 := Lib.hid f1
        have hbe : decide (entK y = 6 ∧ entBody y = cb) = true := decide_eq_true ⟨f3, f2⟩
        have F4 := Lib.hid f4
        rw [f1]
        clear hgd hT2 hP2 f1 f2 f3 f4
        cases hz : decide (by' = 0)
        · skip
          rw [hz] at e0
          have hyn : decide (y = n) = false := by rw [F4.out, hz]
          clear hz
          have q1 := eql_nm (n := n) (m := n) true (decide_eq_true rfl)
          have q0 := guard_nm n n
          have q2 := eql_nm false hyn
          have q3 := guard_nm y n
          go_wp2_with (refine wp_want rfl fun K hK => ?_; first | (refine wp_rw_load (P := Try.prog) N Try.underlying43 rfl infoNm_size rfl rfl ?_; refine hK _ _ ?_; clear hK K) | (refine wp_blk_load rfl rfl B ?_; refine hK _ _ ?_; clear hK K) | (refine wp_rw_load (P := Try.prog) C Try.underlying43 rfl infoNm_size rfl rfl ?_; refine hK _ _ ?_; clear hK K) | (refine wp_blk_load rfl rfl D ?_; refine hK _ _ ?_; clear hK K) | (refine wp_rw_load (P := Try.prog) E Try.underlying43 rfl infoNm_size rfl rfl ?_; refine hK _ _ ?_; clear hK K) | (refine wp_blk_load rfl rfl G ?_; refine hK _ _ ?_; clear hK K) | (refine wp_blk_eqlR true hbe rfl rfl rfl hyl hcl ?_; refine hK _ _ ?_; clear hK K))
          go_ret
          exact ⟨rfl, W⟩
        · skip
          rw [hz] at e0
          have hyn : decide (y = n) = true := by rw [F4.out, hz]
          clear hz
          have q1 := eql_nm (n := n) (m := n) true (decide_eq_true rfl)
          have q0 := guard_nm n n
          have q2 := eql_nm true hyn
          have q3 := guard_nm y n
          go_wp2_with (refine wp_want rfl fun K hK => ?_; first | (refine wp_rw_load (P := Try.prog) N Try.underlying43 rfl infoNm_size rfl rfl ?_; refine hK _ _ ?_; clear hK K) | (refine wp_blk_load rfl rfl B ?_; refine hK _ _ ?_; clear hK K) | (refine wp_rw_load (P := Try.prog) C Try.underlying43 rfl infoNm_size rfl rfl ?_; refine hK _ _ ?_; clear hK K) | (refine wp_blk_load rfl rfl D ?_; refine hK _ _ ?_; clear hK K) | (refine wp_rw_load (P := Try.prog) E Try.underlying43 rfl infoNm_size rfl rfl ?_; refine hK _ _ ?_; clear hK K) | (refine wp_blk_load rfl rfl G ?_; refine hK _ _ ?_; clear hK K) | (refine wp_blk_eqlR true hbe rfl rfl rfl hyl hcl ?_; refine hK _ _ ?_; clear hK K))
          go_ret
          exact ⟨rfl, W⟩
  · have hI : (30 : Int) < (n.s.length : Int) := by omega
    go_enter Try.func7, Try.ntmps7
    go_wp2_with (refine wp_want rfl fun K hK => ?_; first | refine wp_rw_box (P := Try.prog) (t := 43) (nmA n) rfl rfl ?_)
    intro w1 Nx b1 s1
    refine hK _ _ ?_
    clear hK K
    have W := b1
    have N := Nx
    clear Nx s1
    go_wp2_with (refine wp_want rfl fun K hK => ?_; first | (refine wp_rw_load (P := Try.prog) N Try.underlying43 rfl infoNm_size rfl rfl ?_; refine hK _ _ ?_; clear hK K))
    refine (hB _).mono ?_
    rintro e w2 ⟨rfl, b2⟩
    have N := RowAt.later N b2
    have W := W.trans (b2.mono W.size)
    clear b2
    have c3 := RowAt.cell N 3 (str n.s) rfl
    go_wp2_with (refine wp_want rfl fun K hK => ?_; first | (refine wp_rw_load (P := Try.prog) N Try.underlying43 rfl infoNm_size rfl rfl ?_; refine hK _ _ ?_; clear hK K))
    go_ret
    exact ⟨rfl, W⟩
theorem entBack_row (n : Nm) (n1 n2 : Int) (W : World) (ok : n.s.length ≤ 1000000 → NmOk n) (wf1 : (Lit.int .u8 n1).wf = true) (wf2 : (Lit.int .u8 n2).wf = true) :
    Calls Try.prog 7 #[nmV n, .int .u8 n1, .int .u8 n2] W fun e w' => e = .returned (.bool true) ∧ Below W.heap.size W w' := by
  obtain ⟨b1, rfl⟩ := wf_u8 wf1
  obtain ⟨b2, rfl⟩ := wf_u8 wf2
  exact entBack_law n b1 b2 W ok
end Go.Proofs.Ytgeiafijibgdhaa.Cl
