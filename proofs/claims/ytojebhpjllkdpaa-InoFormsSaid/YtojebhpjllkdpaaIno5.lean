/- Take and TakeID of any bytes; begun of layer 11. -/
import Derived.Test.YtojebhpjllkdpaaIno4
set_option linter.unusedVariables false
set_option linter.unusedSimpArgs false
namespace Go.Proofs.Ytojebhpjllkdpaa.Cl
open Go Go.Proofs Go.RowKit Fl Rely

theorem takeID_ne (l : List UInt8) (h : l.length ≠ 7) : takeID l = (0, 0, 0, false) := by
  unfold takeID
  split
  · simp at h
  · rfl

theorem take_any (v : Value) (l : List UInt8) (w : World) (hv : Rd w v (bs l)) :
    Calls Try.prog 21 #[v] w fun e w' => e = .returned (takeV l) ∧ Below w.heap.size w w' := by
  by_cases h7 : l.length = 7
  · obtain ⟨b0, b1, b2, b3, b4, b5, b6, rfl⟩ := take_7 l h7
    exact take7_any v b0 b1 b2 b3 b4 b5 b6 w hv
  · obtain ⟨a, cap, rfl, hc1, hc2, _, _⟩ := id hv
    rw [List.length_map] at *
    have htk := takeID_ne l h7
    have h7' : (((l.length : Nat) : Int) != 7) = true := by simp; omega
    clear h7
    go_enter Try.func21, Try.ntmps21
    go_wp2_with fail
    refine bodyPost_ret (v := .tuple #[idv 0 0 0, .bool false]) (by simp [results, Try.results21, go_sem]) rfl ⟨?_, by go_grown⟩
    unfold takeV
    rw [htk]
theorem refTake_any (v : Value) (l : List UInt8) (w : World) (hv : Rd w v (bs l)) :
    Calls Try.prog 22 #[v] w fun e w' => e = .returned (takeV l) ∧ Below w.heap.size w w' := by
  by_cases h7 : l.length = 7
  · obtain ⟨b0, b1, b2, b3, b4, b5, b6, rfl⟩ := take_7 l h7
    exact refTake7_any v b0 b1 b2 b3 b4 b5 b6 w hv
  · obtain ⟨a, cap, rfl, hc1, hc2, _, _⟩ := id hv
    rw [List.length_map] at *
    have htk := takeID_ne l h7
    have h7' : (((l.length : Nat) : Int) != 7) = true := by simp; omega
    clear h7
    go_enter Try.func22, Try.ntmps22
    go_wp2_with fail
    refine bodyPost_ret (v := .tuple #[idv 0 0 0, .bool false]) (by simp [results, Try.results22, go_sem]) rfl ⟨?_, by go_grown⟩
    unfold takeV
    rw [htk]

theorem takeV_of {l : List UInt8} {a b c : Int} {k : Bool} (h : takeID l = (a, b, c, k)) : takeV l = .tuple #[idv a b c, .bool k] := by unfold takeV; rw [h]

set_option maxRecDepth 100000 in
set_option maxHeartbeats 4000000 in
theorem inoBegun_any (w : World) :
    Calls Try.prog 20 #[] w fun e w' => e = .returned (.bool true) ∧ Below w.heap.size w w' := by
  have p1 : putID 2 5 9 = [2, 0, 5, 0, 0, 0, 9] := by decide
  have p2 : putID (-1) 0 0 = [255, 0, 0, 0, 0, 0, 0] := by decide
  have t1 : takeV [2, 0, 5, 0, 0, 0, 9] = .tuple #[idv 2 5 9, .bool true] := takeV_of (by decide)
  have t2 : takeV [255, 0, 0, 0, 0, 0, 0] = .tuple #[idv (-1) 0 0, .bool true] := takeV_of (by decide)
  have t3 : takeV [] = .tuple #[idv 0 0 0, .bool false] := takeV_of (by decide)
  go_enter Try.func20, Try.ntmps20
  go_wp2_with fail
  refine (put_any 2 5 9 _ (by decide) (by decide) (by decide)).mono ?_
  rintro e w1 ⟨u1, rfl, hu1, _, _, hb1⟩
  have hx1 := (Box3.new w (.int .i64 2) (.int .i64 5) (.int .u32 9) 33).below hb1
  have hb1 := below_new_then hb1
  rw [p1] at hu1
  go_wp2_with fail
  refine (take_any _ [2, 0, 5, 0, 0, 0, 9] _ hu1.rd).mono ?_
  rw [t1]
  rintro e w2 ⟨rfl, hb2⟩
  have hx1 := hx1.below hb2
  have hb2 := hb1.trans (hb2.mono hb1.size)
  go_wp2_with fail
  refine at_world fun w3 hw3 => ?_
  have hx2 : Box3 w3 w2.heap.size (.int .i64 2) (.int .i64 5) (.int .u32 9) := by rw [hw3]; exact Box3.new _ _ _ _ _
  have hx1 := hx1.below (by rw [hw3]; exact below_new _ _ : Below w2.heap.size w2 w3)
  have hb3 : Below w.heap.size w w3 := by rw [hw3]; exact hb2.trans (below_mono (below_new _ _) hb2.size)
  clear hw3 hb1 hb2 hu1
  refine (root_any _).mono ?_
  rintro e w4 ⟨rfl, hb4⟩
  have hx1 := hx1.below hb4
  have hx2 := hx2.below hb4
  have hb4 := hb3.trans (hb4.mono hb3.size)
  clear hb3
  go_wp2_with fail
  refine (put_any (-1) 0 0 _ (by decide) (by decide) (by decide)).mono ?_
  rintro e w5 ⟨u2, rfl, hu2, _, _, hb5⟩
  rw [p2] at hu2
  have hx1 := hx1.below hb5
  have hx2 := hx2.below hb5
  have hb5 := hb4.trans (hb5.mono hb4.size)
  clear hb4
  go_wp2_with fail
  refine (take_any _ [255, 0, 0, 0, 0, 0, 0] _ hu2.rd).mono ?_
  rw [t2]
  rintro e w6 ⟨rfl, hb6⟩
  have hx1 := hx1.below hb6
  have hx2 := hx2.below hb6
  have hb6 := hb5.trans (hb6.mono hb5.size)
  clear hb5 hu2
  go_wp2_with fail
  refine at_world fun w7 hw7 => ?_
  have hx3 : Box3 w7 w6.heap.size (.int .i64 (-1)) (.int .i64 0) (.int .u32 0) := by rw [hw7]; exact Box3.new _ _ _ _ _
  have hx1 := hx1.below (by rw [hw7]; exact below_new _ _ : Below w6.heap.size w6 w7)
  have hx2 := hx2.below (by rw [hw7]; exact below_new _ _ : Below w6.heap.size w6 w7)
  have hb7 : Below w.heap.size w w7 := by rw [hw7]; exact hb6.trans (below_mono (below_new _ _) hb6.size)
  clear hw7 hb6
  refine (take_any _ [] _ (Rd.nil _)).mono ?_
  rw [t3]
  rintro e w8 ⟨rfl, hb8⟩
  have hx1 := hx1.below hb8
  have hx2 := hx2.below hb8
  have hx3 := hx3.below hb8
  have hb8 := hb7.trans (hb8.mono hb7.size)
  clear hb7
  go_wp2_with fail
  refine at_wp fun w9 hw9 => ?_
  have hx1 := (hx1.below (by rw [hw9]; exact below_new _ _ : Below w8.heap.size w8 w9)).drew
  have hx2 := (hx2.below (by rw [hw9]; exact below_new _ _ : Below w8.heap.size w8 w9)).drew
  have hx3 := (hx3.below (by rw [hw9]; exact below_new _ _ : Below w8.heap.size w8 w9)).drew
  have hb9 : Below w.heap.size w w9.drew := by rw [hw9]; exact (hb8.trans (below_mono (below_new _ _) hb8.size)).drew
  clear hw9 hb8
  have y10 := fun x : Lat w9.drew => (hx1.below x.2).1
  have y11 := fun x : Lat w9.drew => (hx1.below x.2).2.1
  have y12 := fun x : Lat w9.drew => (hx1.below x.2).2.2
  have y20 := fun x : Lat w9.drew => (hx2.below x.2).1
  have y21 := fun x : Lat w9.drew => (hx2.below x.2).2.1
  have y22 := fun x : Lat w9.drew => (hx2.below x.2).2.2
  have y30 := fun x : Lat w9.drew => (hx3.below x.2).1
  have y31 := fun x : Lat w9.drew => (hx3.below x.2).2.1
  have y32 := fun x : Lat w9.drew => (hx3.below x.2).2.2
  have m1 : mayID 2 5 9 = true := by decide
  have m2 : mayID 0 0 0 = false := by decide
  have hM1 := Lib.hid (fun w => m1 ▸ may_any 2 5 9 w (by decide) (by decide))
  have hM2 := Lib.hid (fun w => m2 ▸ may_any 0 0 0 w (by decide) (by decide))
  refine wp_region_rely 32 (by kernel_rfl) (by kernel_rfl) ?_
  simp only [List.take_succ_cons, List.take_zero]
  generalize World.drew w9 = wa at *
  repeat (first
    | (refine wpR_step0 ?_ ?_ (fun K hK => ?_); rfl; rfl; go_simp; refine hK _ ?_; clear hK K)
    | (refine wpR_step0 ?_ ?_ (fun K hK => ?_); rfl; rfl; go_simp; apply Exists.intro; refine ⟨fun x => ?_, hK _ ?_⟩; (first | (go_at_call 27; exact root_any _) | (go_at_call 23; first | (with_reducible exact hM1.out _) | (with_reducible exact hM2.out _))); clear hK K))
  refine wpR_nil fun x => ?_
  obtain ⟨wb, wbb⟩ := x
  simp only [close, List.drop_succ_cons, List.drop_zero]
  go_wp2
  go_ret
  exact ⟨rfl, hb9.trans (wbb.mono hb9.size)⟩
end Go.Proofs.Ytojebhpjllkdpaa.Cl
