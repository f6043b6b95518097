/- The law InoBack. -/
import Derived.Test.YtojebhpjllkdpaaInoLaws
set_option linter.unusedVariables false
set_option linter.unusedSimpArgs false
namespace Go.Proofs.Ytojebhpjllkdpaa.Cl
open Go Go.Proofs Go.RowKit Fl Rely

/-- who may be comes back -/
theorem mayID_back (a b m : Nat) (ha : a < 8) (hb1 : 1 ≤ b) (hb2 : b < 200) : mayID a b m = decide (0 < m) := by
  unfold mayID
  apply Bool.eq_iff_iff.mpr
  simp only [decide_eq_true_eq]
  omega
theorem idA_of (a : Nat) (h : a < 8) : idA (UInt8.ofNat a) = a := by
  unfold idA
  rw [if_neg (by intro h'; have := congrArg UInt8.toNat h'; rw [UInt8.toNat_ofNat'] at this; simp at this; omega), UInt8.toNat_ofNat']
  omega
theorem idB_of (b : Nat) (h : b < 65536) : idB (UInt8.ofNat (b / 256)) (UInt8.ofNat b) = b := by
  unfold idB
  rw [UInt8.toNat_ofNat', UInt8.toNat_ofNat']
  omega
theorem idC_of (c : Nat) (h : c < 4294967296) : idC (UInt8.ofNat (c / 16777216)) (UInt8.ofNat (c / 65536)) (UInt8.ofNat (c / 256)) (UInt8.ofNat c) = c := by
  unfold idC
  rw [UInt8.toNat_ofNat', UInt8.toNat_ofNat', UInt8.toNat_ofNat', UInt8.toNat_ofNat']
  omega
theorem putID_back (a b m : Nat) (ha : a < 8) (hb1 : 1 ≤ b) (hb2 : b < 200) (hm : 0 < m) :
    putID a b m = [UInt8.ofNat a, UInt8.ofNat (b / 256), UInt8.ofNat b, UInt8.ofNat (m / 16777216), UInt8.ofNat (m / 65536), UInt8.ofNat (m / 256), UInt8.ofNat m] := by
  unfold putID
  rw [mayID_back a b m ha hb1 hb2, if_pos (by simpa using hm), be2, be4]
  have : ((a : Int) % 256).toNat = a := by omega
  rw [this, Int.toNat_natCast, Int.toNat_natCast]
  rfl
theorem takeID_back (a b m : Nat) (ha : a < 8) (hb1 : 1 ≤ b) (hb2 : b < 200) (hm : m < 4294967296) :
    takeID (putID a b m) = if 0 < m then ((a : Int), (b : Int), (m : Int), true) else (0, 0, 0, false) := by
  by_cases h : 0 < m
  · rw [if_pos h]
    have hp := putID_back a b m ha hb1 hb2 h
    rw [hp]
    show (if putID (idA (UInt8.ofNat a)) (idB (UInt8.ofNat (b / 256)) (UInt8.ofNat b)) (idC (UInt8.ofNat (m / 16777216)) (UInt8.ofNat (m / 65536)) (UInt8.ofNat (m / 256)) (UInt8.ofNat m)) = _ then _ else _) = _
    rw [idA_of a ha, idB_of b (by omega), idC_of m hm, if_pos hp]
  · rw [if_neg h, put_nil _ _ _ (by rw [mayID_back a b m ha hb1 hb2]; simpa using h)]
    rfl
/-- seven bytes are one, or nobody -/
theorem takeID_seven (l : List UInt8) : ((takeID l).2.2.2 = true ∧ putID (takeID l).1 (takeID l).2.1 (takeID l).2.2.1 = l) ∨ takeID l = (0, 0, 0, false) := by
  unfold takeID
  split
  · split
    · left; exact ⟨rfl, by assumption⟩
    · right; rfl
  · right; rfl
theorem takeID_in (l : List UInt8) : (-1 ≤ (takeID l).1 ∧ (takeID l).1 ≤ 255) ∧ (0 ≤ (takeID l).2.1 ∧ (takeID l).2.1 < 65536) ∧ 0 ≤ (takeID l).2.2.1 ∧ (takeID l).2.2.1 < 4294967296 := by
  unfold takeID
  split
  · rename_i b0 b1 b2 b3 b4 b5 b6
    split
    · have hlB : idB b1 b2 < 65536 := by have := b1.toNat_lt; have := b2.toNat_lt; unfold idB; omega
      have hlC : idC b3 b4 b5 b6 < 4294967296 := by have := b3.toNat_lt; have := b4.toNat_lt; have := b5.toNat_lt; have := b6.toNat_lt; unfold idC; omega
      have hB0 : 0 ≤ idB b1 b2 := by unfold idB; omega
      have hC0 : 0 ≤ idC b3 b4 b5 b6 := by unfold idC; omega
      have hA0 : -1 ≤ idA b0 ∧ idA b0 ≤ 255 := by unfold idA; have := b0.toNat_lt; split <;> omega
      exact ⟨hA0, ⟨hB0, hlB⟩, hC0, hlC⟩
    · simp
  · simp
theorem rem_u8 (n : UInt8) : IntKind.u8.wrap (Int.tmod (n.toNat : Int) 8) = ((n.toNat % 8 : Nat) : Int) := by
  have := n.toNat_lt
  rw [Int.tmod_eq_emod_of_nonneg (by omega)]
  simp [IntKind.wrap, IntKind.signed, IntKind.bits]
  omega

set_option maxRecDepth 100000 in
set_option maxHeartbeats 4000000 in
theorem inoBack_law (n0 n1 : UInt8) (m : Nat) (l : List UInt8) (w : World) (hm : m < 4294967296) (hl : l.length = 7) :
    Calls Try.prog 8 #[.int .u8 n0.toNat, .int .u8 n1.toNat, .int .u32 m, .agg (bs l).toArray] w fun e w' => e = .returned (.bool true) ∧ Below w.heap.size w w' := by
  obtain ⟨b0, b1, b2, b3, b4, b5, b6, rfl⟩ := take_7 l hl
  obtain ⟨a, ha, hea⟩ : ∃ a : Nat, a < 8 ∧ ((n0.toNat : Int) % 8) = a := ⟨n0.toNat % 8, by omega, by omega⟩
  obtain ⟨b, hb1, hb2, heb⟩ : ∃ b : Nat, 1 ≤ b ∧ b < 200 ∧ wrap64 (1 + (wrap64 (n1.toNat : Int)).tmod 199) = b := by
    have := n1.toNat_lt
    refine ⟨1 + n1.toNat % 199, by omega, by omega, ?_⟩
    rw [IntWalk.wrap64_in (n1.toNat : Int) (by omega), Int.tmod_eq_emod_of_nonneg (by omega), IntWalk.wrap64_in _ (by omega)]
    omega
  have htk := takeID_back a b m ha hb1 hb2 hm
  have hsv := takeID_seven [b0, b1, b2, b3, b4, b5, b6]
  obtain ⟨A, B, C, k, htk2⟩ : ∃ A B C k, takeID [b0, b1, b2, b3, b4, b5, b6] = (A, B, C, k) := ⟨_, _, _, _, rfl⟩
  have htv2 := takeV_of htk2
  have hin := takeID_in [b0, b1, b2, b3, b4, b5, b6]
  rw [htk2] at hsv hin
  have hea := Lib.hid hea
  have heb := Lib.hid heb
  go_enter Try.func8, Try.ntmps8
  go_wp2_with fail
  refine at_world fun w0 hw0 => ?_
  have hx0 : Rd w0 (.slice (some ⟨w.heap.size, 0, none⟩) 7 7) (bs [b0, b1, b2, b3, b4, b5, b6]) := by rw [hw0]; exact Rd.new w #[u8 b0, u8 b1, u8 b2, u8 b3, u8 b4, u8 b5, u8 b6] _ _ 7 rfl (by simp)
  have hb0 : Below w.heap.size w w0 := by rw [hw0]; exact below_new _ _
  clear hw0
  refine (inoBegun_any _).mono ?_
  rintro e w1 ⟨rfl, hbx⟩
  have hx0 := hx0.below hbx
  have hbx := hb0.trans (hbx.mono hb0.size)
  clear hb0
  go_wp2_with fail
  rw [hea.out, heb.out]
  refine at_world fun w2 hw2 => ?_
  have hx0 := hx0.below (by rw [hw2]; exact below_new _ _ : Below w1.heap.size w1 w2)
  have hx1 : Box3 w2 w1.heap.size (.int .i64 a) (.int .i64 b) (.int .u32 m) := by rw [hw2]; exact Box3.new _ _ _ _ _
  have hb2' : Below w.heap.size w w2 := by rw [hw2]; exact hbx.trans (below_mono (below_new _ _) hbx.size)
  clear hw2 hbx
  refine (put_any a b m w2 (by omega) (by omega) (by omega)).mono ?_
  rintro e w3 ⟨u1, rfl, hu1, _, _, hb3⟩
  have hx0 := hx0.below hb3
  have hx1 := hx1.below hb3
  have hb3 := hb2'.trans (hb3.mono hb2'.size)
  clear hb2'
  go_wp2_with fail
  refine (take_any _ _ _ hu1.rd).mono ?_
  rintro e w4 ⟨rfl, hb4⟩
  have hx0 := hx0.below hb4
  have hx1 := hx1.below hb4
  have hb4 := hb3.trans (hb4.mono hb3.size)
  clear hb3 hu1
  obtain ⟨A1, B1, C1, ok, htk1⟩ : ∃ A B C k, takeID (putID a b m) = (A, B, C, k) := ⟨_, _, _, _, rfl⟩
  have htv1 := takeV_of htk1
  rw [htk1] at htk
  rw [htv1]
  go_wp2_with fail
  refine at_world fun w5 hw5 => ?_
  have hx0 := hx0.below (by rw [hw5]; exact below_new _ _ : Below w4.heap.size w4 w5)
  have hx1 := hx1.below (by rw [hw5]; exact below_new _ _ : Below w4.heap.size w4 w5)
  have hx2 : Box3 w5 w4.heap.size (.int .i64 A1) (.int .i64 B1) (.int .u32 C1) := by rw [hw5]; exact Box3.new _ _ _ _ _
  have hb5 : Below w.heap.size w w5 := by rw [hw5]; exact hb4.trans (below_mono (below_new _ _) hb4.size)
  clear hw5 hb4
  refine (take_any _ _ _ hx0).mono ?_
  rw [htv2]
  rintro e w6 ⟨rfl, hb6⟩
  have hx0 := hx0.below hb6
  have hx1 := hx1.below hb6
  have hx2 := hx2.below hb6
  have hb6 := hb5.trans (hb6.mono hb5.size)
  clear hb5
  go_wp2_with fail
  refine at_wp fun w7 hw7 => ?_
  have hx0 := hx0.below (by rw [hw7]; exact below_new _ _ : Below w6.heap.size w6 w7).drew
  have hx1 := (hx1.below (by rw [hw7]; exact below_new _ _ : Below w6.heap.size w6 w7)).drew
  have hx2 := (hx2.below (by rw [hw7]; exact below_new _ _ : Below w6.heap.size w6 w7)).drew
  have hx3 : Box3 w7.drew w6.heap.size (.int .i64 A) (.int .i64 B) (.int .u32 C) := by rw [hw7]; exact (Box3.new _ _ _ _ _).drew
  have hb7 : Below w.heap.size w w7.drew := by rw [hw7]; exact (hb6.trans (below_mono (below_new _ _) hb6.size)).drew
  clear hw7 hb6
  have y10 := fun x : Lat w7.drew => (hx1.below x.2).1
  have y11 := fun x : Lat w7.drew => (hx1.below x.2).2.1
  have y12 := fun x : Lat w7.drew => (hx1.below x.2).2.2
  have y20 := fun x : Lat w7.drew => (hx2.below x.2).1
  have y21 := fun x : Lat w7.drew => (hx2.below x.2).2.1
  have y22 := fun x : Lat w7.drew => (hx2.below x.2).2.2
  have y30 := fun x : Lat w7.drew => (hx3.below x.2).1
  have y31 := fun x : Lat w7.drew => (hx3.below x.2).2.1
  have y32 := fun x : Lat w7.drew => (hx3.below x.2).2.2
  have heq1 : ∀ w, (binOp .eql 33 (idv a b m) (idv a b m)).run Try.prog w = .ok (.bool true) w := fun w => by rw [eq_id]; simp
  have heq2 : ∀ w, (binOp .eql 33 (idv 0 0 0) (idv 0 0 0)).run Try.prog w = .ok (.bool true) w := fun w => by rw [eq_id]; simp
  have hput : ∀ x : World, Calls Try.prog 25 #[idv A B C] x fun e W => ∃ u, e = .returned u ∧ OB W x.heap.size u (putID A B C) ∧ Below x.heap.size x W := fun x =>
    (put_any A B C x (by omega) (by omega) (by omega)).mono fun _ _ ⟨u, h1, h2, _, _, h3⟩ => ⟨u, h1, h2, h3⟩
  clear hin htv1 htv2 htk1 htk2 hea heb
  by_cases hm0 : 0 < m
  · have hg : decide (0 < m) = true := by simpa using hm0
    rw [if_pos hm0] at htk
    simp only [Prod.mk.injEq] at htk
    obtain ⟨rfl, rfl, rfl, rfl⟩ := htk
    clear hm0
    rcases hsv with ⟨rfl, hp⟩ | hn
    · clear heq2
      rw [hp] at hput
      clear hp
      refine wp_region_rely 33 (by kernel_rfl) (by kernel_rfl) ?_
      simp only [List.take_succ_cons, List.take_zero]
      generalize World.drew w7 = w8 at *
      have hcv := fun x : Lat w8 => run_string_of (P := Try.prog) (hx0.below x.2) 22 5 9 Try.underlying22 Try.underlying5 Try.underlying9
      repeat (first
        | (refine wpR_step0 ?_ ?_ (fun K hK => ?_); rfl; rfl; go_simp; refine hK _ ?_; clear hK K))
      refine wpR_fresh (fun v W => OB W w.heap.size v [b0, b1, b2, b3, b4, b5, b6]) 54 rfl rfl rfl rfl (of_decide_eq_true rfl) (persist_OB _ _) (fun x => ?_) ?_
      · go_simp
        exact (hput x.1).mono fun _ _ ⟨u, h1, h2, h3⟩ => ⟨u, h1, h3, h2.mono (Nat.le_trans hb7.size x.2.size)⟩
      refine wpR_settled (.string ⟨([b0, b1, b2, b3, b4, b5, b6] : List UInt8).toArray⟩) [(54, fun v W => OB W w.heap.size v [b0, b1, b2, b3, b4, b5, b6])] rfl rfl rfl (fun x => ?_) ?_
      · simp only [close]
        intro u hu
        have hcu := run_string_of (P := Try.prog) hu.rd 22 5 9 Try.underlying22 Try.underlying5 Try.underlying9
        go_simp
      repeat (first
        | (refine wpR_step0 ?_ ?_ (fun K hK => ?_); rfl; rfl; go_simp; refine hK _ ?_; clear hK K))
      refine wpR_nil fun x => ?_
      obtain ⟨w9, w9b⟩ := x
      simp only [close, List.drop_succ_cons, List.drop_zero]
      intro u54 _
      simp only [Act.put, List.setIfInBounds_toArray, List.set_cons_zero, List.set_cons_succ]
      go_wp2
      go_ret
      exact ⟨rfl, hb7.trans (w9b.mono hb7.size)⟩
    · simp only [Prod.mk.injEq] at hn
      obtain ⟨rfl, rfl, rfl, rfl⟩ := hn
      clear hput
      refine wp_region_rely 33 (by kernel_rfl) (by kernel_rfl) ?_
      simp only [List.take_succ_cons, List.take_zero]
      generalize World.drew w7 = w8 at *
      repeat (first
        | (refine wpR_step0 ?_ ?_ (fun K hK => ?_); rfl; rfl; go_simp; refine hK _ ?_; clear hK K))
      refine wpR_nil fun x => ?_
      obtain ⟨w9, w9b⟩ := x
      simp only [close, List.drop_succ_cons, List.drop_zero]
      go_wp2
      go_ret
      exact ⟨rfl, hb7.trans (w9b.mono hb7.size)⟩
  · have hg : decide (0 < m) = false := by simpa using hm0
    rw [if_neg hm0] at htk
    simp only [Prod.mk.injEq] at htk
    obtain ⟨rfl, rfl, rfl, rfl⟩ := htk
    clear hm0 heq1
    rcases hsv with ⟨rfl, hp⟩ | hn
    · clear heq2
      rw [hp] at hput
      clear hp
      refine wp_region_rely 33 (by kernel_rfl) (by kernel_rfl) ?_
      simp only [List.take_succ_cons, List.take_zero]
      generalize World.drew w7 = w8 at *
      have hcv := fun x : Lat w8 => run_string_of (P := Try.prog) (hx0.below x.2) 22 5 9 Try.underlying22 Try.underlying5 Try.underlying9
      repeat (first
        | (refine wpR_step0 ?_ ?_ (fun K hK => ?_); rfl; rfl; go_simp; refine hK _ ?_; clear hK K))
      refine wpR_fresh (fun v W => OB W w.heap.size v [b0, b1, b2, b3, b4, b5, b6]) 54 rfl rfl rfl rfl (of_decide_eq_true rfl) (persist_OB _ _) (fun x => ?_) ?_
      · go_simp
        exact (hput x.1).mono fun _ _ ⟨u, h1, h2, h3⟩ => ⟨u, h1, h3, h2.mono (Nat.le_trans hb7.size x.2.size)⟩
      refine wpR_settled (.string ⟨([b0, b1, b2, b3, b4, b5, b6] : List UInt8).toArray⟩) [(54, fun v W => OB W w.heap.size v [b0, b1, b2, b3, b4, b5, b6])] rfl rfl rfl (fun x => ?_) ?_
      · simp only [close]
        intro u hu
        have hcu := run_string_of (P := Try.prog) hu.rd 22 5 9 Try.underlying22 Try.underlying5 Try.underlying9
        go_simp
      repeat (first
        | (refine wpR_step0 ?_ ?_ (fun K hK => ?_); rfl; rfl; go_simp; refine hK _ ?_; clear hK K))
      refine wpR_nil fun x => ?_
      obtain ⟨w9, w9b⟩ := x
      simp only [close, List.drop_succ_cons, List.drop_zero]
      intro u54 _
      simp only [Act.put, List.setIfInBounds_toArray, List.set_cons_zero, List.set_cons_succ]
      go_wp2
      go_ret
      exact ⟨rfl, hb7.trans (w9b.mono hb7.size)⟩
    · simp only [Prod.mk.injEq] at hn
      obtain ⟨rfl, rfl, rfl, rfl⟩ := hn
      clear hput
      refine wp_region_rely 33 (by kernel_rfl) (by kernel_rfl) ?_
      simp only [List.take_succ_cons, List.take_zero]
      generalize World.drew w7 = w8 at *
      repeat (first
        | (refine wpR_step0 ?_ ?_ (fun K hK => ?_); rfl; rfl; go_simp; refine hK _ ?_; clear hK K))
      refine wpR_nil fun x => ?_
      obtain ⟨w9, w9b⟩ := x
      simp only [close, List.drop_succ_cons, List.drop_zero]
      go_wp2
      go_ret
      exact ⟨rfl, hb7.trans (w9b.mono hb7.size)⟩

theorem inoBack_row (n0 n1 n2 : Int) (l : List UInt8) (w : World) (h0 : (Lit.int .u8 n0).wf = true) (h1 : (Lit.int .u8 n1).wf = true) (h2 : (Lit.int .u32 n2).wf = true) (hl : l.length = 7) :
    Calls Try.prog 8 #[.int .u8 n0, .int .u8 n1, .int .u32 n2, .agg (bs l).toArray] w fun e w' => e = .returned (.bool true) ∧ Below w.heap.size w w' := by
  obtain ⟨a, rfl⟩ := wf_u8 h0
  obtain ⟨b, rfl⟩ := wf_u8 h1
  obtain ⟨m, rfl, hm⟩ := wf_u32 h2
  exact inoBack_law a b m l w hm hl
end Go.Proofs.Ytojebhpjllkdpaa.Cl
