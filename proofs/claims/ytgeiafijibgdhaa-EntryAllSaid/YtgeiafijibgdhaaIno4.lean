/- The walk of the reference's TakeID. -/
import Derived.Test.YtgeiafijibgdhaaIno3
set_option linter.unusedVariables false
set_option linter.unusedSimpArgs false
namespace Go.Proofs.Ytgeiafijibgdhaa.Cl
open Go Go.Proofs Go.RowKit Fl Rely

theorem num2 (x y : UInt8) : num [x, y] = x.toNat * 256 + y.toNat := by simp [num]
theorem num4 (x y z t : UInt8) : num [x, y, z, t] = x.toNat * 16777216 + y.toNat * 65536 + z.toNat * 256 + t.toNat := by
  simp [num]; omega

theorem num2_any (v : Value) (x y : UInt8) (w : World) (hv : Rd w v (bs [x, y])) : Calls Try.prog 49 #[v] w fun e w' => e = .returned (.int .u64 (idB x y)) ∧ Below w.heap.size w w' := by
  have := forget (num_any v [x, y] w hv (by simp))
  rw [num2] at this
  exact this
theorem num4_any (v : Value) (x y z t : UInt8) (w : World) (hv : Rd w v (bs [x, y, z, t])) : Calls Try.prog 49 #[v] w fun e w' => e = .returned (.int .u64 (idC x y z t)) ∧ Below w.heap.size w w' := by
  have := forget (num_any v [x, y, z, t] w hv (by simp))
  rw [num4] at this
  exact this
set_option maxRecDepth 100000 in
set_option maxHeartbeats 4000000 in
theorem refTake7_any (v : Value) (b0 b1 b2 b3 b4 b5 b6 : UInt8) (w : World) (hv : Rd w v (bs [b0, b1, b2, b3, b4, b5, b6])) :
    Calls Try.prog 59 #[v] w fun e w' => e = .returned (takeV [b0, b1, b2, b3, b4, b5, b6]) ∧ Below w.heap.size w w' := by
  obtain ⟨ad, cap, rfl, hc1, hc2⟩ := hv.some_ (by simp)
  have hc7 : 7 ≤ cap := by simpa using hc1
  have hlB : idB b1 b2 < 65536 := by have := b1.toNat_lt; have := b2.toNat_lt; unfold idB; omega
  have hlC : idC b3 b4 b5 b6 < 4294967296 := by have := b3.toNat_lt; have := b4.toNat_lt; have := b5.toNat_lt; have := b6.toNat_lt; unfold idC; omega
  have hB0 : 0 ≤ idB b1 b2 := by unfold idB; omega
  have hC0 : 0 ≤ idC b3 b4 b5 b6 := by unfold idC; omega
  have hA0 : -1 ≤ idA b0 ∧ idA b0 ≤ 255 := by unfold idA; have := b0.toNat_lt; split <;> omega
  have hcase : (((b0.toNat : Int) == 255) = true ∧ idA b0 = -1) ∨ (((b0.toNat : Int) == 255) = false ∧ idA b0 = (b0.toNat : Int)) := by
    unfold idA
    by_cases h : b0 = 255
    · left; rw [if_pos h, h]; exact ⟨rfl, rfl⟩
    · right; rw [if_neg h]
      exact ⟨beq_eq_false_iff_ne.2 (fun h' => h (UInt8.toNat_inj.1 (by simpa using (Int.ofNat.inj h' : b0.toNat = 255)))), rfl⟩
  have e0 : IntKind.i64.wrap (b0.toNat : Int) = (b0.toNat : Int) := IntWalk.i64_in _ (by have := b0.toNat_lt; omega)
  have e1 : IntKind.i64.wrap (idB b1 b2) = idB b1 b2 := IntWalk.i64_in _ (by omega)
  have e2 : IntKind.u32.wrap (idC b3 b4 b5 b6) = idC b3 b4 b5 b6 := IntWalk.u32_in _ (by omega)
  have hN1 := Lib.hid (fun v w h => num2_any v b1 b2 w h)
  have hN2 := Lib.hid (fun v w h => num4_any v b3 b4 b5 b6 w h)
  have htk : takeID [b0, b1, b2, b3, b4, b5, b6] = if putID (idA b0) (idB b1 b2) (idC b3 b4 b5 b6) = [b0, b1, b2, b3, b4, b5, b6] then (idA b0, idB b1 b2, idC b3 b4 b5 b6, true) else (0, 0, 0, false) := rfl
  generalize hidB : idB b1 b2 = B at *
  generalize hidC : idC b3 b4 b5 b6 = C at *
  clear hidB hidC
  have hb : Below w.heap.size w (w.alloc (.cells #[.int .i64 0, .int .i64 0, .int .u32 0] 41)).drew := (below_new _ _).drew
  have hx0 := fun x : Lat (w.alloc (.cells #[.int .i64 0, .int .i64 0, .int .u32 0] 41)).drew => ((hv.below hb).below x.2).cell0 (by simp)
  have hn1' : ¬ cap = 1 := by omega
  have hn3' : ¬ cap = 3 := by omega
  have hi3 : (3 : Int) ≤ (cap : Int) := by omega
  have hs1 : ∀ x : Lat (w.alloc (.cells #[.int .i64 0, .int .i64 0, .int .u32 0] 41)).drew, Rd x.1 (.slice (some { ad with off := ad.off + 1, spot := none }) 2 (cap - 1)) (bs [b1, b2]) := fun x => by
    have h := ((hv.below hb).below x.2).sub 1 3 (by simp) (by simp)
    unfold sliced at h
    rw [if_neg hn1'] at h
    exact h
  have hs2 : ∀ x : Lat (w.alloc (.cells #[.int .i64 0, .int .i64 0, .int .u32 0] 41)).drew, Rd x.1 (.slice (some { ad with off := ad.off + 3, spot := none }) 4 (cap - 3)) (bs [b3, b4, b5, b6]) := fun x => by
    have h := ((hv.below hb).below x.2).sub 3 7 (by simp) (by simp)
    unfold sliced at h
    rw [if_neg hn3'] at h
    exact h
  simp only [List.map_cons, List.getElem_cons_zero, List.getElem_cons_succ] at hx0
  have hsz0 : w.heap.size < (w.alloc (.cells #[.int .i64 0, .int .i64 0, .int .u32 0] 41)).drew.heap.size := by simp
  have hr0 : Box3 (w.alloc (.cells #[.int .i64 0, .int .i64 0, .int .u32 0] 41)).drew w.heap.size (.int .i64 0) (.int .i64 0) (.int .u32 0) := Box3.new w (.int .i64 0) (.int .i64 0) (.int .u32 0) 41
  have hrf : Free3 (w.alloc (.cells #[.int .i64 0, .int .i64 0, .int .u32 0] 41)).drew w.heap.size := Free3.new _ _ _ _ _
  rcases hcase with ⟨e3, hA⟩ | ⟨e3, hA⟩
  all_goals
    generalize idA b0 = A at *
    have HA := Lib.hid hA
    clear hA
    go_enter Try.func59, Try.ntmps59
    go_wp2_with fail
    refine wp_region_rely 14 (by kernel_rfl) (by kernel_rfl) ?_
    simp only [List.take_succ_cons, List.take_zero]
    generalize World.drew (w.alloc _) = w1 at *
    repeat (first
      | (refine wpR_step0 ?_ ?_ (fun K hK => ?_); rfl; rfl; go_simp; refine hK _ ?_; clear hK K)
      | (refine wpR_step0 ?_ ?_ (fun K hK => ?_); rfl; rfl; go_simp; apply Exists.intro; refine ⟨fun x => ?_, hK _ ?_⟩; (first | (go_at_call 49; first | (with_reducible exact hN1.out _ _ (hs1 x)) | (with_reducible exact hN2.out _ _ (hs2 x)))); clear hK K))
    refine wpR_fresh (New3 w1.heap.size (.int .i64 0) (.int .i64 0) (.int .u32 0)) 4 rfl rfl rfl rfl (of_decide_eq_true rfl) (persist_new3 _ _ _ _) (fun x => ?_) ?_
    · go_simp
      exact ⟨below_new _ _, _, rfl, x.2.size, by simp, Box3.new _ _ _ _ _, by simp, by simp, by simp⟩
    refine wpR_nil fun x => ?_
    obtain ⟨w2, w2b⟩ := x
    simp only [close, List.drop_succ_cons, List.drop_zero]
    rintro u ⟨g, rfl, hg1, hg2, ⟨hg3, hg4, hg5⟩, hg6, hg7, hg8⟩
    simp only [Act.put, List.setIfInBounds_toArray, List.set_cons_zero, List.set_cons_succ]
    have hgw : w.heap.size ≤ g := Nat.le_trans (Nat.le_of_lt hsz0) hg1
    have hb2 := hb.trans (w2b.mono (Nat.le_of_lt hsz0))
    have hy0 := (hv.below (((hb2.setCell hgw (p := ⟨g, 0, none⟩) (.int .i64 (b0.toNat : Int))).setCell hgw (p := ⟨g, 1, none⟩) (.int .i64 B)).setCell hgw (p := ⟨g, 2, none⟩) (.int .u32 C))).cell0 (by simp)
    simp only [List.map_cons, List.getElem_cons_zero] at hy0
    clear e0 e1 e2 hx0 hs1 hs2
    go_wp2_with fail
    refine at_wp fun W3 hW3 => ?_
    have hb3 : Below w.heap.size w W3 := by rw [hW3]; repeat (first | exact hb2 | refine Below.setCell ?_ hgw _)
    have hb13 : Below w1.heap.size w1 W3 := by rw [hW3]; repeat (first | exact w2b | refine Below.setCell ?_ hg1 _)
    have hs3 : g < W3.heap.size := by rw [hW3]; simpa using hg2
    have hc3 : Box3 W3 g (.int .i64 A) (.int .i64 B) (.int .u32 C) := by rw [hW3, HA.out]; exact ⟨by go_simp, by go_simp, by go_simp⟩
    clear hW3 hg3 hg4 hg5 hg6 hg7 hg8 hy0
    obtain rfl := HA.out
    clear HA
    have hr3 := hr0.in_ hb13 hsz0
    have hf3 := hrf.below hb13 hsz0
    have hs3' : w.heap.size < W3.heap.size := Nat.lt_of_lt_of_le hsz0 hb13.size
    have hb4 : Below w.heap.size w W3.drew := hb3.drew
    have hcx : ∀ x : Lat W3.drew, Box3 x.1 g _ _ _ := fun x => hc3.drew.below x.2
    have hcx0 := fun x => (hcx x).1
    have hcx1 := fun x => (hcx x).2.1
    have hcx2 := fun x => (hcx x).2.2
    have hcv : ∀ x : Lat W3.drew, (convert 37 9 (.slice (some ad) 7 cap)).run Try.prog x.1 = .ok (.string ⟨[b0, b1, b2, b3, b4, b5, b6].toArray⟩) x.1 := fun x => run_string_of ((hv.below hb4).below x.2) 37 5 9 Try.underlying37 Try.underlying5 Try.underlying9
    generalize hpl : putID _ B C = pl at htk
    have HP := Lib.hid (fun w => hpl ▸ refPut_any _ B C w hlC)
    clear hpl
    have hf3d : Free3 W3.drew w.heap.size := hf3
    have hs3' : w.heap.size < W3.drew.heap.size := hs3'
    have hr3 : Box3 W3.drew w.heap.size _ _ _ := hr3
    by_cases hp : pl = [b0, b1, b2, b3, b4, b5, b6]
    · rw [if_pos hp] at htk
      have hpe : (pl == [b0, b1, b2, b3, b4, b5, b6]) = true := by simpa using hp
      clear hp
      refine wp_region_rely 6 (by kernel_rfl) (by kernel_rfl) ?_
      simp only [List.take_succ_cons, List.take_zero]
      generalize World.drew W3 = W4 at *
      repeat (first
        | (refine wpR_step0 ?_ ?_ (fun K hK => ?_); rfl; rfl; go_simp; refine hK _ ?_; clear hK K))
      refine wpR_fresh (fun v W => OB W w.heap.size v pl) 28 rfl rfl rfl rfl (of_decide_eq_true rfl) (persist_OB _ _) (fun x => ?_) ?_
      · go_simp
        exact (HP.out x.1).mono fun _ _ ⟨u, h1, h2, h3⟩ => ⟨u, h1, h3, h2.mono (Nat.le_trans hb4.size x.2.size)⟩
      refine wpR_settled (.string ⟨pl.toArray⟩) [(28, fun v W => OB W w.heap.size v pl)] rfl rfl rfl (fun x => ?_) ?_
      · simp only [close]
        intro u hu
        have hcu := run_string_of (P := Try.prog) hu.rd 37 5 9 Try.underlying37 Try.underlying5 Try.underlying9
        go_simp
      repeat (first
        | (refine wpR_step0 ?_ ?_ (fun K hK => ?_); rfl; rfl; go_simp; refine hK _ ?_; clear hK K))
      refine wpR_nil fun x => ?_
      obtain ⟨W5, W5b⟩ := x
      simp only [close, List.drop_succ_cons, List.drop_zero]
      intro u28 hu28
      simp only [Act.put, List.setIfInBounds_toArray, List.set_cons_zero, List.set_cons_succ, wpList]
      obtain ⟨hcx50, hcx51, hcx52⟩ := hcx ⟨W5, W5b⟩
      obtain ⟨hr50, hr51, hr52⟩ := hr3.below W5b
      obtain ⟨hf50, hf51, hf52⟩ := hf3d.below W5b hs3'
      have hs5 : w.heap.size < W5.heap.size := Nat.lt_of_lt_of_le hs3' W5b.size
      have hb5 : Below w.heap.size w W5 := hb4.trans (W5b.mono hb4.size)
      clear hcx hcx0 hcx1 hcx2 hcv
      go_wp2_with fail
      refine bodyPost_ret (v := .tuple #[idv _ B C, .bool true]) (by simp [results, Try.results59, go_sem, hr50, hr51, hr52]; rfl) rfl ⟨?_, by go_grown⟩
      unfold takeV
      rw [htk]
    · rw [if_neg hp] at htk
      have hpe : (pl == [b0, b1, b2, b3, b4, b5, b6]) = false := by simpa using hp
      clear hp
      refine wp_region_rely 6 (by kernel_rfl) (by kernel_rfl) ?_
      simp only [List.take_succ_cons, List.take_zero]
      generalize World.drew W3 = W4 at *
      repeat (first
        | (refine wpR_step0 ?_ ?_ (fun K hK => ?_); rfl; rfl; go_simp; refine hK _ ?_; clear hK K))
      refine wpR_fresh (fun v W => OB W w.heap.size v pl) 28 rfl rfl rfl rfl (of_decide_eq_true rfl) (persist_OB _ _) (fun x => ?_) ?_
      · go_simp
        exact (HP.out x.1).mono fun _ _ ⟨u, h1, h2, h3⟩ => ⟨u, h1, h3, h2.mono (Nat.le_trans hb4.size x.2.size)⟩
      refine wpR_settled (.string ⟨pl.toArray⟩) [(28, fun v W => OB W w.heap.size v pl)] rfl rfl rfl (fun x => ?_) ?_
      · simp only [close]
        intro u hu
        have hcu := run_string_of (P := Try.prog) hu.rd 37 5 9 Try.underlying37 Try.underlying5 Try.underlying9
        go_simp
      repeat (first
        | (refine wpR_step0 ?_ ?_ (fun K hK => ?_); rfl; rfl; go_simp; refine hK _ ?_; clear hK K))
      refine wpR_nil fun x => ?_
      obtain ⟨W5, W5b⟩ := x
      simp only [close, List.drop_succ_cons, List.drop_zero]
      intro u28 hu28
      simp only [Act.put, List.setIfInBounds_toArray, List.set_cons_zero, List.set_cons_succ, wpList]
      obtain ⟨hcx50, hcx51, hcx52⟩ := hcx ⟨W5, W5b⟩
      obtain ⟨hr50, hr51, hr52⟩ := hr3.below W5b
      obtain ⟨hf50, hf51, hf52⟩ := hf3d.below W5b hs3'
      have hs5 : w.heap.size < W5.heap.size := Nat.lt_of_lt_of_le hs3' W5b.size
      have hb5 : Below w.heap.size w W5 := hb4.trans (W5b.mono hb4.size)
      clear hcx hcx0 hcx1 hcx2 hcv
      go_wp2_with fail
      refine bodyPost_ret (v := .tuple #[idv 0 0 0, .bool false]) (by simp [results, Try.results59, go_sem, hr50, hr51, hr52]) rfl ⟨?_, by go_grown⟩
      unfold takeV
      rw [htk]
end Go.Proofs.Ytgeiafijibgdhaa.Cl
