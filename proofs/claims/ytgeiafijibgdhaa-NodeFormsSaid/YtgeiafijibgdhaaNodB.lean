/- The reference's TakeNode. -/
import Derived.Test.YtgeiafijibgdhaaNodA
import Derived.Test.YtgeiafijibgdhaaNod8
set_option linter.unusedVariables false
set_option linter.unusedSimpArgs false
namespace Go.Proofs.Ytgeiafijibgdhaa.Cl
open Go Go.Proofs Go.RowKit Fl Rely

theorem part_len {b : List UInt8} {a n : Nat} (h : a + n ≤ b.length) : (part b a n).length = n := by
  unfold part
  rw [List.length_take, List.length_drop]
  omega
theorem numPart_any (b : List UInt8) (kd : Int) (g a n : Nat) (w : World) (hB : BlkAt w g kd b) (hn : n ≤ 8) (ha : a + n ≤ 56) :
    Calls Try.prog 49 #[.slice (some ⟨g, 1 + a, none⟩) n (56 - a)] w fun e w' => e = .returned (.int .u64 (num (part b a n))) ∧ w = w' :=
  num_any _ (part b a n) w (hB.rd ha) (by have := part_length b a n; omega)
theorem numPartL_any (b : List UInt8) (kd : Int) (g a n o c : Nat) (w : World) (hB : BlkAt w g kd b) (hn : n ≤ 8) (ha : a + n ≤ 56) (ho : o = 1 + a) (hc : c = 56 - a) :
    Calls Try.prog 49 #[.slice (some ⟨g, o, none⟩) n c] w fun e w' => e = .returned (.int .u64 (num (part b a n))) ∧ w = w' := by
  subst ho hc
  exact numPart_any b kd g a n w hB hn ha
theorem elemSB : Try.prog.elem 37 = 5 := by kernel_rfl
theorem underSB : Try.prog.underlying 37 = some (.slice (Try.prog.elem 37)) := by rw [elemSB]; exact Try.underlying37
theorem sliceB_lh {g i n : Nat} (hi : i < 56) (hn : i + n ≤ 56) (l h : Int) (hl : l = (i : Int)) (hh : h = (i : Int) + (n : Int)) (w : World) :
    (Instr.sliceAt 37 (.slice (some ⟨g, 1, none⟩) 56 56) (some (.int .i64 l)) (some (.int .i64 h)) none).run Try.prog w = .ok (.slice (some ⟨g, 1 + i, none⟩) n (56 - i)) w := by
  subst hl hh
  rw [run_sliceAt_slice (P := Try.prog) w 37 _ _ _ _ underSB, run_slice_lh (P := Try.prog) w 37 _ _ _ underSB .i64 .i64 _ _ (by omega) (by omega) (by omega), elemSB, sizeOf_u8]
  simp only [Result.andThen_ok, sliced, Nat.mul_one, Int.toNat_natCast, Option.map_some, Addr.add_mid]
  rw [if_neg (by omega), show ((i : Int) + (n : Int)).toNat - i = n by omega]
def FreshNd (B : Nat) (v : Value) (W : World) : Prop := ∃ g, v = .pointer (some ⟨g, 0, none⟩) ∧ NdAt W g zNd ∧ B ≤ g
theorem persist_freshNd (B : Nat) : RelyT.Persist (FreshNd B) := fun v W W' ⟨g, h1, h2, h3⟩ hb => ⟨g, h1, RowAt.later h2 hb, h3⟩
theorem num_bound (b : List UInt8) (a n : Nat) : num (part b a n) < 256 ^ n := Nat.lt_of_lt_of_le (num_lt _) (Nat.pow_le_pow_right (by decide) (part_length b a n))
def RefTakeRel (kd : Int) (b : List UInt8) (w : World) (g1 g5 : Nat) (i : Value) (wr : World) : Prop := ∃ k : Nat, k ≤ 4 ∧ i = .int .i64 (k : Int) ∧ NdAt wr g5 (ndPre b k) ∧ BlkAt wr w.heap.size kd b ∧ NdAt wr g1 zNd ∧ Below w.heap.size w wr
set_option maxRecDepth 100000 in
set_option maxHeartbeats 8000000 in
theorem refTakeNode_any (kd : Int) (b : List UInt8) (w : World) (hb56 : b.length = 56) :
    Calls Try.prog 19 #[blkV kd b] w fun e w' => e = .returned (ndO kd b) ∧ Below w.heap.size w w' := by
  go_enter Try.func19, Try.ntmps19
  go_wp2_with (refine wp_want rfl fun K hK => ?_; refine wp_blk_box rfl rfl hb56 ?_)
  intro w1 B1 b1 s1
  refine hK _ _ ?_
  clear hK K
  go_wp2_with (refine wp_want rfl fun K hK => ?_; refine wp_rw_alloc (P := Try.prog) (t := 25) (ndV zNd) infoNd_zero rfl ?_)
  intro w2 A2 b2 s2
  refine hK _ _ ?_
  clear hK K
  have W : Below w.heap.size w w2 := b1.trans (b2.mono b1.size)
  have B1 := B1.later b2
  have hlt1 : w.heap.size < w1.heap.size := s1
  have hlt2 : w1.heap.size < w2.heap.size := s2
  clear s1 b2 s2
  have ys := fun w2 => slice_body_all (g := w.heap.size) w2
  go_upto_region 2 with fail
  have hdr := (Below.refl w2.heap.size w2).drew
  have q0 := num_bound b 0 4
  have q1 := num_bound b 4 2
  have q2 := num_bound b 6 4
  simp only [Nat.reducePow] at q0 q1 q2
  have B1d : BlkAt w2.drew w.heap.size kd b := B1
  have h0 := fun x : RelyT.Lat w2.drew => numPart_any b kd w.heap.size 0 4 x.1 (B1d.later x.2) (by decide) (by decide)
  have h1 := fun x : RelyT.Lat w2.drew => numPart_any b kd w.heap.size 4 2 x.1 (B1d.later x.2) (by decide) (by decide)
  have h2 := fun x : RelyT.Lat w2.drew => numPart_any b kd w.heap.size 6 4 x.1 (B1d.later x.2) (by decide) (by decide)
  obtain ⟨m0, hm0⟩ : ∃ m, m = num (part b 0 4) := ⟨_, rfl⟩
  obtain ⟨m1, hm1⟩ : ∃ m, m = num (part b 4 2) := ⟨_, rfl⟩
  obtain ⟨m2, hm2⟩ : ∃ m, m = num (part b 6 4) := ⟨_, rfl⟩
  rw [← hm0] at q0 h0
  rw [← hm1] at q1 h1
  rw [← hm2] at q2 h2
  have Hm0 := Lib.hid hm0
  have Hm1 := Lib.hid hm1
  have Hm2 := Lib.hid hm2
  clear hm0 hm1 hm2
  have hc0 : ∀ x : RelyT.Lat w2.drew, Calls Try.prog 49 #[.slice (some ⟨w.heap.size, 1, none⟩) 4 56] x.1 fun e w' => e = .returned (.int .u64 m0) ∧ Below x.1.heap.size x.1 w' := fun x => forget (h0 x)
  have hc1 : ∀ x : RelyT.Lat w2.drew, Calls Try.prog 49 #[.slice (some ⟨w.heap.size, 5, none⟩) 2 52] x.1 fun e w' => e = .returned (.int .u64 m1) ∧ Below x.1.heap.size x.1 w' := fun x => forget (h1 x)
  have hc2 : ∀ x : RelyT.Lat w2.drew, Calls Try.prog 49 #[.slice (some ⟨w.heap.size, 7, none⟩) 4 50] x.1 fun e w' => e = .returned (.int .u64 m2) ∧ Below x.1.heap.size x.1 w' := fun x => forget (h2 x)
  have e0 : IntKind.u32.wrap (m0 : Int) = (m0 : Int) := by rw [IntKind.wrap_u32]; omega
  have e1 : IntKind.i64.wrap (m1 : Int) = (m1 : Int) := IntWalk.i64_in _ (by omega)
  have e2 : IntKind.i64.wrap (m2 : Int) = (m2 : Int) := IntWalk.i64_in _ (by omega)
  have hsz : w2.heap.size ≤ w2.drew.heap.size := hdr.size
  clear h0 h1 h2
  refine RelyT.wp_region_rely 14 (by kernel_rfl) (by kernel_rfl) ?_
  simp only [List.take_succ_cons, List.take_zero]
  generalize World.drew w2 = wd at *
  repeat (first
    | (refine RelyT.wpR_step0 ?_ ?_ (fun K hK => ?_); rfl; rfl; go_simp; refine hK _ ?_; clear hK K)
    | (refine RelyT.wpR_step0 ?_ ?_ (fun K hK => ?_); rfl; rfl; go_simp; apply Exists.intro; refine ⟨fun x => ?_, hK _ ?_⟩; (first | (with_reducible exact hc0 _) | (with_reducible exact hc1 _) | (with_reducible exact hc2 _)); clear hK K))
  refine RelyT.wpR_fresh (FreshNd w2.heap.size) 5 rfl rfl rfl rfl (of_decide_eq_true rfl) (persist_freshNd _) (fun y => ?_) ?_
  · go_simp
    exact ⟨below_new _ _, _, rfl, RowAt.new _ _ _, Nat.le_trans hsz y.2.size⟩
  refine RelyT.wpR_nil fun x => ?_
  obtain ⟨we, web⟩ := x
  simp only [RelyT.close, List.drop_succ_cons, List.drop_zero]
  rintro v5 ⟨g5, rfl, A5, hge⟩
  simp only [Act.put, List.setIfInBounds_toArray, List.set_cons_zero, List.set_cons_succ]
  have hm0 := Hm0.out
  have hm1 := Hm1.out
  have hm2 := Hm2.out
  subst hm0 hm1 hm2
  have W := W.trans ((hdr.trans (web.mono hdr.size)).mono W.size)
  have B1 := B1d.later web
  have A2 := A2.later (hdr.trans (web.mono hdr.size))
  clear hc0 hc1 hc2 e0 e1 e2 web hdr B1d Hm0 Hm1 Hm2 hsz
  have lt5 := A5.lt
  go_wp2_with (refine wp_want rfl fun K hK => ?_; refine wp_rw_store (P := Try.prog) (cs := ndA (ndPre b 0)) A5 infoNd_size rfl (ndA_all _) rfl rfl rfl ?_)
  intro w8 A8 g8 z8
  refine hK _ _ ?_
  clear hK K
  have B1 := B1.grown g8 (by omega)
  have A2 := A2.grown g8 (by omega)
  have W := below_row W g8 W.size (by omega)
  have n8 := g8.size
  clear A5 g8 z8
  go_wp2_with fail
  go_loopw [6] (fun i wr => RefTakeRel kd b w w1.heap.size g5 i wr) (fun i _ => 4 - (intOf i).toNat)
  case atStart => exact ⟨0, by decide, rfl, A8, B1, A2, W⟩
  case round =>
    clear A8 B1 A2 W
    obtain ⟨k, hk, rfl, A8, B1, A2, W⟩ := hrel
    have lt6 := A8.lt
    by_cases hlt : k < 4
    · have hk4 : k = 0 ∨ k = 1 ∨ k = 2 ∨ k = 3 := by omega
      rcases hk4 with rfl | rfl | rfl | rfl
      · have hk := numPartL_any b kd w.heap.size 10 2 11 46 wr B1 (by decide) (by decide) rfl rfl
        have q3 := num_bound b 10 2
        have hset := ndPre_succ b 0 (by decide)
        rw [show nN b (10 + 2 * 0) 2 = (num (part b 10 2) : Nat) from rfl] at hset
        simp only [Nat.reducePow] at q3
        generalize num (part b 10 2) = m at *
        go_wp2_with fail
        refine hk.mono ?_
        rintro e wq ⟨rfl, rfl⟩
        obtain ⟨zx, kx⟩ : ∃ z, wr.cell? ⟨g5, 3, none⟩ = some z := ⟨_, A8.cell 3 _ rfl⟩
        have fx := nd_frozen wr g5 3 _ A8
        obtain ⟨A10, g10, z10⟩ := A8.set 3 (.int .i64 ((m : Int) - 1))
        rw [hset] at A10
        have B1 := B1.grown g10 (by omega)
        have A2 := A2.grown g10 (by omega)
        have W := below_row W g10 W.size (by omega)
        clear z10 A8 g10 hset hk
        go_wp2_with fail
        go_roundw
        case rel => exact ⟨1, by decide, by go_num, A10, B1, A2, W⟩
        case measure => simp only [intOf]; omega
      · have hk := numPartL_any b kd w.heap.size 12 2 13 44 wr B1 (by decide) (by decide) rfl rfl
        have q3 := num_bound b 12 2
        have hset := ndPre_succ b 1 (by decide)
        rw [show nN b (10 + 2 * 1) 2 = (num (part b 12 2) : Nat) from rfl] at hset
        simp only [Nat.reducePow] at q3
        generalize num (part b 12 2) = m at *
        go_wp2_with fail
        refine hk.mono ?_
        rintro e wq ⟨rfl, rfl⟩
        obtain ⟨zx, kx⟩ : ∃ z, wr.cell? ⟨g5, 4, none⟩ = some z := ⟨_, A8.cell 4 _ rfl⟩
        have fx := nd_frozen wr g5 4 _ A8
        obtain ⟨A10, g10, z10⟩ := A8.set 4 (.int .i64 ((m : Int) - 1))
        rw [hset] at A10
        have B1 := B1.grown g10 (by omega)
        have A2 := A2.grown g10 (by omega)
        have W := below_row W g10 W.size (by omega)
        clear z10 A8 g10 hset hk
        go_wp2_with fail
        go_roundw
        case rel => exact ⟨2, by decide, by go_num, A10, B1, A2, W⟩
        case measure => simp only [intOf]; omega
      · have hk := numPartL_any b kd w.heap.size 14 2 15 42 wr B1 (by decide) (by decide) rfl rfl
        have q3 := num_bound b 14 2
        have hset := ndPre_succ b 2 (by decide)
        rw [show nN b (10 + 2 * 2) 2 = (num (part b 14 2) : Nat) from rfl] at hset
        simp only [Nat.reducePow] at q3
        generalize num (part b 14 2) = m at *
        go_wp2_with fail
        refine hk.mono ?_
        rintro e wq ⟨rfl, rfl⟩
        obtain ⟨zx, kx⟩ : ∃ z, wr.cell? ⟨g5, 5, none⟩ = some z := ⟨_, A8.cell 5 _ rfl⟩
        have fx := nd_frozen wr g5 5 _ A8
        obtain ⟨A10, g10, z10⟩ := A8.set 5 (.int .i64 ((m : Int) - 1))
        rw [hset] at A10
        have B1 := B1.grown g10 (by omega)
        have A2 := A2.grown g10 (by omega)
        have W := below_row W g10 W.size (by omega)
        clear z10 A8 g10 hset hk
        go_wp2_with fail
        go_roundw
        case rel => exact ⟨3, by decide, by go_num, A10, B1, A2, W⟩
        case measure => simp only [intOf]; omega
      · have hk := numPartL_any b kd w.heap.size 16 2 17 40 wr B1 (by decide) (by decide) rfl rfl
        have q3 := num_bound b 16 2
        have hset := ndPre_succ b 3 (by decide)
        rw [show nN b (10 + 2 * 3) 2 = (num (part b 16 2) : Nat) from rfl] at hset
        simp only [Nat.reducePow] at q3
        generalize num (part b 16 2) = m at *
        go_wp2_with fail
        refine hk.mono ?_
        rintro e wq ⟨rfl, rfl⟩
        obtain ⟨zx, kx⟩ : ∃ z, wr.cell? ⟨g5, 6, none⟩ = some z := ⟨_, A8.cell 6 _ rfl⟩
        have fx := nd_frozen wr g5 6 _ A8
        obtain ⟨A10, g10, z10⟩ := A8.set 6 (.int .i64 ((m : Int) - 1))
        rw [hset] at A10
        have B1 := B1.grown g10 (by omega)
        have A2 := A2.grown g10 (by omega)
        have W := below_row W g10 W.size (by omega)
        clear z10 A8 g10 hset hk
        go_wp2_with fail
        go_roundw
        case rel => exact ⟨4, by decide, by go_num, A10, B1, A2, W⟩
        case measure => simp only [intOf]; omega
    · have hlI : ¬ (k : Int) < 4 := by omega
      obtain rfl : k = 4 := by omega
      have hkk := numPartL_any b kd w.heap.size 18 2 19 38 wr B1 (by decide) (by decide) rfl rfl
      have q3 := num_bound b 18 2
      simp only [Nat.reducePow] at q3
      have kx : wr.cell? ⟨g5, 7, none⟩ = some (.int .i64 0) := A8.cell 7 _ rfl
      have fx := nd_frozen wr g5 7 _ A8
      obtain ⟨A10, g10, z10⟩ := A8.set 7 (.int .i64 ((num (part b 18 2) : Int) - 1))
      have A10 : NdAt (wr.setCell ⟨g5, 7, none⟩ (.int .i64 ((num (part b 18 2) : Int) - 1))) g5 { readNd b with s := [] } := A10
      have B1 := B1.grown g10 (by omega)
      have A2 := A2.grown g10 (by omega)
      have W := below_row W g10 W.size (by omega)
      have n10 := Nat.le_of_eq z10.symm
      clear z10 A8 g10
      generalize num (part b 18 2) = m at *
      go_wp2_with fail
      refine hkk.mono ?_
      rintro e wq ⟨rfl, rfl⟩
      go_upto_region 8 with fail
      generalize wr.setCell ⟨g5, 7, none⟩ (.int .i64 ((m : Int) - 1)) = w10 at *
      clear hkk kx fx
      have e20 : num (part b 20 1) = (b[20]'(by omega)).toNat := by
        have : part b 20 1 = [b[20]'(by omega)] := by
          have := part_succ b 20 0 (by omega)
          simpa [part] using this
        rw [this]
        simp [num]
      have c20 : w10.cell? ⟨w.heap.size, 21, none⟩ = some (u8 (b[20]'(by omega))) := B1.byte (i := 20) (by omega)
      have h255 := (b[20]'(by omega)).toNat_lt
      have hP := fun w => refPutNode_any kd (readNd b) w (readNd_ok b hb56)
      have hEl := ndBody_length (kind := kd) (n := readNd b)
      have hgd : goodN kd b ↔ mayN kd (readNd b) ∧ ndBody kd (readNd b) = b := Iff.rfl
      have hK6 : mayN kd (readNd b) → ndK kd (readNd b) = kd := fun h => by unfold ndK; rw [if_pos h]
      have HY : goodN kd b → ndO kd b = .tuple #[ndV (readNd b), .bool true] := fun h => by unfold ndO; rw [if_pos h, decide_eq_true h]
      have HN : ¬ goodN kd b → ndO kd b = .tuple #[ndV zNd, .bool false] := fun h => by unfold ndO; rw [if_neg h, decide_eq_false h]
      have hlong : 35 < num (part b 20 1) → ¬ goodN kd b := fun h hg => by
        have h1 := (mayN_facts hg.1).2.2.2.1
        have h2 : (readNd b).s.length = min (num (part b 20 1)) 35 := by
          show (part b 21 (num (part b 20 1))).length = _
          unfold part
          rw [List.length_take, List.length_drop, hb56]
        omega
      have hrs : ({ readNd b with s := part b 21 (num (part b 20 1)) } : Nd) = readNd b := rfl
      have HY := Lib.hid HY
      have HN := Lib.hid HN
      have Hgd := Lib.hid hgd
      have HK6 := Lib.hid hK6
      rw [e20] at hlong hrs
      clear hgd hK6 e20
      generalize b[20]'(by omega) = c at *
      by_cases hl35 : 35 < c.toNat
      · have hI : (35 : Int) < (c.toNat : Int) := by omega
        have Hres := Lib.hid (HN.out (hlong hl35))
        clear hlong hrs hP
        go_wp2_with (refine wp_want rfl fun K hK => ?_; refine wp_rw_store (P := Try.prog) (cs := ndA zNd) A2 infoNd_size rfl (ndA_all _) rfl rfl rfl ?_)
        intro w16 A16 g16 z16
        refine hK _ _ ?_
        clear hK K
        have W := below_row W g16 W.size (by omega)
        go_wp2_with fail
        exact bodyPost_ret (results_nd2 rfl rfl rfl A16) rfl ⟨by rw [Hres.out]; rfl, W⟩
      · have hI : ¬ (35 : Int) < (c.toNat : Int) := by omega
        have hS := fun (h : 21 + c.toNat ≤ 56) => run_string_of (P := Try.prog) (B1.rd (i := 21) (n := c.toNat) h) 37 5 9 Try.underlying37 Try.underlying5 Try.underlying9
        have hS := hS (by omega)
        have ysl := sliceB_lh (g := w.heap.size) (i := 21) (n := c.toNat) (by decide) (by omega) 21 (21 + (c.toNat : Int)) rfl rfl
        have ysl2 := fun w2 => (run_sliceAt_slice (P := Try.prog) w2 37 (.slice (some ⟨w.heap.size, 1, none⟩) 56 56) (some (.int .i64 21)) (some (.int .i64 (21 + (c.toNat : Int)))) none underSB).symm.trans (ysl w2)
        obtain ⟨sx, hsx⟩ : ∃ s, s = part b 21 c.toNat := ⟨_, rfl⟩
        rw [← hsx] at hrs
        rw [show (b.drop 21).take c.toNat = sx from hsx.symm] at hS
        have Hrs := Lib.hid hrs
        clear hlong hsx hrs
        have kx := A10.cell 8 (str []) rfl
        have fx := nd_frozen w10 g5 8 _ A10
        obtain ⟨A12, g12, z12⟩ := A10.set 8 (str sx)
        go_upto_region 11 with fail
        have A12 : NdAt (w10.setCell ⟨g5, 8, none⟩ (str sx)) g5 (readNd b) := by rw [← Hrs.out]; exact A12
        have B1 := B1.grown g12 (by omega)
        have A2 := A2.grown g12 (by omega)
        have W := below_row W g12 W.size (by omega)
        have n12 := Nat.le_of_eq z12.symm
        generalize w10.setCell ⟨g5, 8, none⟩ (str sx) = w12 at *
        clear z12 g12 kx fx ys ysl ysl2 hS Hrs A10 c20
        generalize readNd b = n at *
        generalize goodN kd b = good at *
        have ck := B1.kind
        go_wp2_with (refine wp_want rfl fun K hK => ?_; (refine wp_rw_load (P := Try.prog) A12 Try.underlying25 rfl infoNd_size rfl rfl ?_; refine hK _ _ ?_; clear hK K))
        refine (hP _).mono ?_
        rintro e w13 ⟨rfl, b13⟩
        have W := W.trans (b13.mono W.size)
        have n13 := b13.size
        have A2 := A2.later b13
        have A12 := A12.later b13
        have B1 := B1.later b13
        go_wp2_with (refine wp_want rfl fun K hK => ?_; refine wp_blk_alloc rfl ?_)
        intro w14 B14 b14 s14
        refine hK _ _ ?_
        clear hK K
        have W := W.trans (b14.mono W.size)
        have n14 := b14.size
        have A2 := A2.later b14
        have A12 := A12.later b14
        have B1 := B1.later b14
        go_wp2_with (refine wp_want rfl fun K hK => ?_; refine wp_blk_store rfl rfl rfl hEl B14 ?_)
        intro w15 B15 g15 z15
        refine hK _ _ ?_
        clear hK K
        have A2 := A2.grown g15 (by omega)
        have A12 := A12.grown g15 (by omega)
        have B1 := B1.grown g15 (by omega)
        have W := below_row W g15 W.size (by omega)
        clear b13 b14 s14 B14 g15 z15 hP
        by_cases hmy : mayN kd n
        · have hk6 := HK6.out hmy
          obtain ⟨r, hr⟩ : ∃ r, decide (ndK kd n = kd ∧ ndBody kd n = b) = r := ⟨_, rfl⟩
          have hgr : good ↔ r = true := by
            rw [← hr, decide_eq_true_iff]
            exact Hgd.out.trans ⟨fun h => ⟨hk6, h.2⟩, fun h => ⟨hmy, h.2⟩⟩
          have Hr := Lib.hid hr
          have Hgr := Lib.hid hgr
          rw [decide_eq_true hmy]
          clear hr hgr hk6 hmy
          cases r
          · have Hres := Lib.hid (HN.out fun h => by cases Hgr.out.1 h)
            go_wp2_with (refine wp_want rfl fun K hK => ?_; first | (refine wp_blk_load rfl rfl B15 ?_; refine hK _ _ ?_; clear hK K) | (refine wp_blk_load rfl rfl B1 ?_; refine hK _ _ ?_; clear hK K) | (refine wp_blk_neqR false Hr.out rfl rfl rfl hEl hb56 ?_; refine hK _ _ ?_; clear hK K) | refine wp_rw_store (P := Try.prog) (cs := ndA zNd) A2 infoNd_size rfl (ndA_all _) rfl rfl rfl ?_)
            intro w16 A16 g16 z16
            refine hK _ _ ?_
            clear hK K
            have W := below_row W g16 W.size (by omega)
            go_wp2_with fail
            exact bodyPost_ret (results_nd2 rfl rfl rfl A16) rfl ⟨by rw [Hres.out]; rfl, W⟩
          · have Hres := Lib.hid (HY.out (Hgr.out.2 rfl))
            go_wp2_with (refine wp_want rfl fun K hK => ?_; first | (refine wp_blk_load rfl rfl B15 ?_; refine hK _ _ ?_; clear hK K) | (refine wp_blk_load rfl rfl B1 ?_; refine hK _ _ ?_; clear hK K) | (refine wp_blk_neqR true Hr.out rfl rfl rfl hEl hb56 ?_; refine hK _ _ ?_; clear hK K) | (refine wp_rw_load (P := Try.prog) A12 Try.underlying25 rfl infoNd_size rfl rfl ?_; refine hK _ _ ?_; clear hK K) | refine wp_rw_store (P := Try.prog) (cs := ndA n) A2 infoNd_size rfl (ndA_all _) rfl rfl rfl ?_)
            intro w16 A16 g16 z16
            refine hK _ _ ?_
            clear hK K
            have W := below_row W g16 W.size (by omega)
            go_wp2_with fail
            exact bodyPost_ret (results_nd2 rfl rfl rfl A16) rfl ⟨by rw [Hres.out]; rfl, W⟩
        · have Hres := Lib.hid (HN.out fun h => hmy (Hgd.out.1 h).1)
          rw [decide_eq_false hmy]
          clear hmy
          go_wp2_with (refine wp_want rfl fun K hK => ?_; refine wp_rw_store (P := Try.prog) (cs := ndA zNd) A2 infoNd_size rfl (ndA_all _) rfl rfl rfl ?_)
          intro w16 A16 g16 z16
          refine hK _ _ ?_
          clear hK K
          have W := below_row W g16 W.size (by omega)
          go_wp2_with fail
          exact bodyPost_ret (results_nd2 rfl rfl rfl A16) rfl ⟨by rw [Hres.out]; rfl, W⟩
end Go.Proofs.Ytgeiafijibgdhaa.Cl
