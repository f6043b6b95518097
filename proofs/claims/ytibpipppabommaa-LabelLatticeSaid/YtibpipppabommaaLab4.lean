/- Labels: the order, bytes, the law's own labels: the walks. -/
import Derived.Test.YtibpipppabommaaLab3
set_option linter.unusedVariables false
set_option linter.unusedSimpArgs false
namespace Go.Proofs.Ytibpipppabommaa.Cl
open Go Go.Proofs Go.RowKit Fl Rely

def lessB (l c l' c' : Int) : Bool := labOK l c && labOK l' c' && decide (orI [cmpI l l', cmpI (pop c.toNat) (pop c'.toNat), cmpI c c'] < 0)
def Rd3 (x y z : Int) (v : Value) (W : World) : Prop := Rd W v ([x, y, z].map (Value.int .i64))
theorem persist_rd3 (x y z : Int) : Persist (Rd3 x y z) := fun _ _ _ h hb => Rd.below h hb

set_option maxRecDepth 100000 in
set_option maxHeartbeats 1000000 in
theorem less_no (l c l' c' : Int) (w : World) (hok : (labOK l c && labOK l' c') = false) : Calls Try.prog 44 #[lv l c, lv l' c'] w fun e w' => e = .returned (.bool false) ∧ Below w.heap.size w w' := by
  have m1 := labMay_any l c
  have m2 := labMay_any l' c'
  rcases ck_no _ _ _ _ hok with h | h
  all_goals
    first | (rw [h] at m1; clear h hok) | (rw [h.1] at m1; rw [h.2] at m2; clear h hok)
    go_enter Try.func44, Try.ntmps44
    go_wp2_with (refine wp_want rfl fun K hK => ?_; refine wp_rw_box (P := Try.prog) (t := 63) #[.int .i64 l, .int .i64 c] rfl rfl ?_)
    intro w1 A1 b1 s1
    refine hK _ _ ?_
    clear hK K
    go_wp2_with (refine wp_want rfl fun K hK => ?_; refine wp_rw_box (P := Try.prog) (t := 63) #[.int .i64 l', .int .i64 c'] rfl rfl ?_)
    intro w2 A2 b2 s2
    refine hK _ _ ?_
    clear hK K
    have B2 := b1.trans (b2.mono b1.size)
    have A := A1.below b2 s1
    have hW := B2
    have x0 := A.at_ 0 (.int .i64 l) rfl
    have x1 := A.at_ 1 (.int .i64 c) rfl
    have y0 := A2.at_ 0 (.int .i64 l') rfl
    have y1 := A2.at_ 1 (.int .i64 c') rfl
    clear A1 A2 b1 b2 B2 A
    go_upto_region 1 with fail
    refine wp_region_text 8 (by kernel_rfl) ?_
    simp only [List.take_succ_cons, List.take_zero]
    repeat (first
      | (refine wpR_step0 ?_ ?_ (fun K hK => ?_); rfl; rfl; go_simp; refine hK _ ?_; clear hK K)
      | (refine wpR_step0 ?_ ?_ (fun K hK => ?_); rfl; rfl; go_simp; apply Exists.intro; refine ⟨fun x => ?_, hK _ ?_⟩; (first | (go_at_call 36; first | (with_reducible exact m1 _) | (with_reducible exact m2 _))); clear hK K))
    refine wpR_nil fun x => ?_
    obtain ⟨w4, w4b⟩ := x
    simp only [close, List.drop_succ_cons, List.drop_zero]
    go_wp2_with fail
    go_ret
    exact ⟨rfl, hW.trans (w4b.mono hW.size)⟩

set_option maxRecDepth 100000 in
set_option maxHeartbeats 1000000 in
theorem less_yes (a b a' b' : Nat) (w : World) (ha : a ≤ 3) (hb : b ≤ 15) (ha' : a' ≤ 3) (hb' : b' ≤ 15) : Calls Try.prog 44 #[lv a b, lv a' b'] w fun e w' => e = .returned (.bool (decide (orI [cmpI a a', cmpI (pop b) (pop b'), cmpI b b'] < 0))) ∧ Below w.heap.size w w' := by
  have m1 := labMay_any a b
  have m2 := labMay_any a' b'
  rw [labOK_mk (by omega) (by omega)] at m1
  rw [labOK_mk (by omega) (by omega)] at m2
  have n1 := fun w => many_any a b hb w
  have n2 := fun w => many_any a' b' hb' w
  have c1 := fun w => compare_any a a' w
  have c2 := fun w => compare_any (pop b) (pop b') w
  have c3 := fun w => compare_any b b' w
  clear ha hb ha' hb'
  generalize ((pop b : Nat) : Int) = p at *
  generalize ((pop b' : Nat) : Int) = p' at *
  generalize (a : Int) = l at *
  generalize (b : Int) = c at *
  generalize (a' : Int) = l' at *
  generalize (b' : Int) = c' at *
  generalize cmpI l l' = x at *
  generalize cmpI p p' = y at *
  generalize cmpI c c' = z at *
  go_enter Try.func44, Try.ntmps44
  go_wp2_with (refine wp_want rfl fun K hK => ?_; refine wp_rw_box (P := Try.prog) (t := 63) #[.int .i64 l, .int .i64 c] rfl rfl ?_)
  intro w1 A1 b1 s1
  refine hK _ _ ?_
  clear hK K
  go_wp2_with (refine wp_want rfl fun K hK => ?_; refine wp_rw_box (P := Try.prog) (t := 63) #[.int .i64 l', .int .i64 c'] rfl rfl ?_)
  intro w2 A2 b2 s2
  refine hK _ _ ?_
  clear hK K
  have B2 := b1.trans (b2.mono b1.size)
  have A := A1.below b2 s1
  have x0 := A.at_ 0 (.int .i64 l) rfl
  have x1 := A.at_ 1 (.int .i64 c) rfl
  have y0 := A2.at_ 0 (.int .i64 l') rfl
  have y1 := A2.at_ 1 (.int .i64 c') rfl
  clear A1 A2 b1 b2 A
  go_upto_region 1 with fail
  refine wp_region_text 8 (by kernel_rfl) ?_
  simp only [List.take_succ_cons, List.take_zero]
  repeat (first
    | (refine wpR_step0 ?_ ?_ (fun K hK => ?_); rfl; rfl; go_simp; refine hK _ ?_; clear hK K)
    | (refine wpR_step0 ?_ ?_ (fun K hK => ?_); rfl; rfl; go_simp; apply Exists.intro; refine ⟨fun x => ?_, hK _ ?_⟩; (first | (go_at_call 36; first | (with_reducible exact m1 _) | (with_reducible exact m2 _))); clear hK K))
  refine wpR_nil fun x => ?_
  obtain ⟨w4, w4b⟩ := x
  simp only [close, List.drop_succ_cons, List.drop_zero]
  have x0 := fun x : Lat w4.drew => cell_later x.2 (x0 ⟨w4, w4b⟩)
  have x1 := fun x : Lat w4.drew => cell_later x.2 (x1 ⟨w4, w4b⟩)
  have y0 := fun x : Lat w4.drew => cell_later x.2 (y0 ⟨w4, w4b⟩)
  have y1 := fun x : Lat w4.drew => cell_later x.2 (y1 ⟨w4, w4b⟩)
  have hW4 : Below w.heap.size w w4.drew := (B2.trans (w4b.mono B2.size)).drew
  clear B2 w4b
  go_wp2_with fail
  refine wp_region_rely 21 (by kernel_rfl) (by kernel_rfl) ?_
  simp only [List.take_succ_cons, List.take_zero]
  generalize World.drew w4 = w5 at *
  repeat (first
    | (refine wpR_step0 ?_ ?_ (fun K hK => ?_); rfl; rfl; go_simp; refine hK _ ?_; clear hK K)
    | (refine wpR_step0 ?_ ?_ (fun K hK => ?_); rfl; rfl; go_simp; apply Exists.intro; refine ⟨fun x => ?_, hK _ ?_⟩; (first | (go_at_call 63; first | (with_reducible exact forget (c1 _)) | (with_reducible exact forget (c2 _)) | (with_reducible exact forget (c3 _))) | (go_at_call 60; first | (with_reducible exact n1 _) | (with_reducible exact n2 _))); clear hK K))
  refine wpR_fresh (Rd3 x y z) 31 rfl rfl rfl rfl (of_decide_eq_true rfl) (persist_rd3 _ _ _) (fun X => ?_) ?_
  · go_simp
    exact ⟨below_new _ _, Rd.new _ _ _ _ 3 rfl (by simp)⟩
  refine wpR_settled (.int .i64 (orI [x, y, z])) [(31, Rd3 x y z)] rfl rfl rfl (fun x => ?_) ?_
  · simp only [close]
    intro u hu
    go_simp
    exact forget (or_any u [_, _, _] x.1 hu)
  repeat (first
    | (refine wpR_step0 ?_ ?_ (fun K hK => ?_); rfl; rfl; go_simp; refine hK _ ?_; clear hK K))
  refine wpR_nil fun x => ?_
  obtain ⟨w6, w6b⟩ := x
  simp only [close, List.drop_succ_cons, List.drop_zero]
  intro u hu
  go_wp2_with fail
  go_ret
  exact ⟨rfl, hW4.trans (w6b.mono hW4.size)⟩

theorem less_any (l c l' c' : Int) (w : World) : Calls Try.prog 44 #[lv l c, lv l' c'] w fun e w' => e = .returned (.bool (lessB l c l' c')) ∧ Below w.heap.size w w' := by
  unfold lessB
  cases hok : labOK l c && labOK l' c'
  · rw [Bool.false_and]
    exact less_no _ _ _ _ _ hok
  · rw [Bool.true_and]
    rw [Bool.and_eq_true] at hok
    obtain ⟨a, b, rfl, rfl, h1, h2⟩ := lab_nat hok.1
    obtain ⟨a', b', rfl, rfl, h3, h4⟩ := lab_nat hok.2
    exact less_yes a b a' b' w h1 h2 h3 h4

/-! ### bytes -/
def putLV (l c : Int) : Value := .tuple #[.int .u8 (if labOK l c then 16 * l + c else 0), .bool (labOK l c)]
theorem putLV_yes {l c : Int} (h : labOK l c = true) : putLV l c = .tuple #[.int .u8 (16 * l + c), .bool true] := by unfold putLV; rw [h]; rfl
theorem putLV_no {l c : Int} (h : labOK l c = false) : putLV l c = .tuple #[.int .u8 0, .bool false] := by unfold putLV; rw [h]; rfl
set_option maxRecDepth 100000 in
theorem labPut_any (l c : Int) (w : World) : Calls Try.prog 32 #[lv l c] w fun e w' => e = .returned (putLV l c) ∧ Below w.heap.size w w' := by
  have m1 := labMay_any l c
  cases hok : labOK l c
  · rw [putLV_no hok]
    rw [hok] at m1
    clear hok
    go_enter Try.func32, Try.ntmps32
    go_wp2_with (refine wp_want rfl fun K hK => ?_; refine wp_rw_box (P := Try.prog) (t := 63) #[.int .i64 l, .int .i64 c] rfl rfl ?_)
    intro w1 A1 b1 s1
    refine hK _ _ ?_
    clear hK K
    have x0 := A1.cell 0 (.int .i64 l) rfl
    have x1 := A1.cell 1 (.int .i64 c) rfl
    go_wp2_with fail
    refine (m1 _).mono ?_
    rintro e w2 ⟨rfl, hb2⟩
    go_wp2_with fail
    go_ret2
    exact ⟨rfl, b1.trans (hb2.mono b1.size)⟩
  · rw [putLV_yes hok]
    rw [hok] at m1
    obtain ⟨h1, h2⟩ := labOK_yes hok
    clear hok
    have e1 : IntKind.u8.wrap (16 * l + c) = 16 * l + c := by rw [IntKind.wrap_u8]; omega
    go_enter Try.func32, Try.ntmps32
    go_wp2_with (refine wp_want rfl fun K hK => ?_; refine wp_rw_box (P := Try.prog) (t := 63) #[.int .i64 l, .int .i64 c] rfl rfl ?_)
    intro w1 A1 b1 s1
    refine hK _ _ ?_
    clear hK K
    have x0 := A1.cell 0 (.int .i64 l) rfl
    have x1 := A1.cell 1 (.int .i64 c) rfl
    go_wp2_with fail
    refine (m1 _).mono ?_
    rintro e w2 ⟨rfl, hb2⟩
    have x0 := cell_later hb2 x0
    have x1 := cell_later hb2 x1
    go_wp2_with fail
    go_ret2
    exact ⟨rfl, b1.trans (hb2.mono b1.size)⟩
set_option maxRecDepth 100000 in
theorem refLabPut_any (l c : Int) (w : World) : Calls Try.prog 33 #[lv l c] w fun e w' => e = .returned (putLV l c) ∧ Below w.heap.size w w' := by
  have m1 := refLabMay_any l c
  cases hok : labOK l c
  · rw [putLV_no hok]
    rw [hok] at m1
    clear hok
    go_enter Try.func33, Try.ntmps33
    go_wp2_with (refine wp_want rfl fun K hK => ?_; refine wp_rw_box (P := Try.prog) (t := 63) #[.int .i64 l, .int .i64 c] rfl rfl ?_)
    intro w1 A1 b1 s1
    refine hK _ _ ?_
    clear hK K
    have x0 := A1.cell 0 (.int .i64 l) rfl
    have x1 := A1.cell 1 (.int .i64 c) rfl
    go_wp2_with fail
    refine (m1 _).mono ?_
    rintro e w2 ⟨rfl, hb2⟩
    go_wp2_with fail
    go_ret2
    exact ⟨rfl, b1.trans (hb2.mono b1.size)⟩
  · rw [putLV_yes hok]
    rw [hok] at m1
    obtain ⟨h1, h2⟩ := labOK_yes hok
    clear hok
    have e1 : IntKind.u8.wrap (16 * l + c) = 16 * l + c := by rw [IntKind.wrap_u8]; omega
    go_enter Try.func33, Try.ntmps33
    go_wp2_with (refine wp_want rfl fun K hK => ?_; refine wp_rw_box (P := Try.prog) (t := 63) #[.int .i64 l, .int .i64 c] rfl rfl ?_)
    intro w1 A1 b1 s1
    refine hK _ _ ?_
    clear hK K
    have x0 := A1.cell 0 (.int .i64 l) rfl
    have x1 := A1.cell 1 (.int .i64 c) rfl
    go_wp2_with fail
    refine (m1 _).mono ?_
    rintro e w2 ⟨rfl, hb2⟩
    have x0 := cell_later hb2 x0
    have x1 := cell_later hb2 x1
    go_wp2_with fail
    go_ret2
    exact ⟨rfl, b1.trans (hb2.mono b1.size)⟩
def takeLL (n : Nat) : Int := if n < 64 then ((n / 16 : Nat) : Int) else 0
def takeLC (n : Nat) : Int := if n < 64 then ((n % 16 : Nat) : Int) else 0
def takeLV (n : Nat) : Value := .tuple #[lv (takeLL n) (takeLC n), .bool (decide (n < 64))]
theorem takeLV_yes {n : Nat} (h : n < 64) : takeLV n = .tuple #[lv ((n / 16 : Nat) : Int) ((n % 16 : Nat) : Int), .bool true] := by unfold takeLV takeLL takeLC; rw [if_pos h, if_pos h, decide_eq_true h]
theorem takeLV_no {n : Nat} (h : ¬ n < 64) : takeLV n = .tuple #[lv 0 0, .bool false] := by unfold takeLV takeLL takeLC; rw [if_neg h, if_neg h, decide_eq_false h]
theorem results_lv2 {fn : Func} {p q : Tmp} (h : fn.results = #[.cell p 63, .tmp q]) {tmps : Array Value} {w : World} {g : Nat} {a b : Int} {v : Value} (hp : tmps.getD p undef = .pointer (some ⟨g, 0, none⟩)) (hq : tmps.getD q undef = v) (hB : RowAt w g 63 #[.int .i64 a, .int .i64 b]) :
    (results fn tmps).run Try.prog w = .ok (.tuple #[lv a b, v]) w := by
  have hp' : tmps[p]?.getD undef = .pointer (some ⟨g, 0, none⟩) := by simpa using hp
  have hq' : tmps[q]?.getD undef = v := by simpa using hq
  have hl := run_rw_load (P := Try.prog) hB Try.underlying63 rfl infoLab
  simp [results, h, hp', hq', asAddr, hl]
set_option maxRecDepth 100000 in
theorem labTake_any (n : Nat) (hn : n < 256) (w : World) : Calls Try.prog 34 #[.int .u8 n] w fun e w' => e = .returned (takeLV n) ∧ Below w.heap.size w w' := by
  by_cases h : n < 64
  · rw [takeLV_yes h]
    go_enter Try.func34, Try.ntmps34
    go_wp2_with (refine wp_want rfl fun K hK => ?_; refine wp_rw_alloc (P := Try.prog) (t := 63) (lv 0 0) zeroLab rfl ?_)
    intro w1 A1 b1 s1
    refine hK _ _ ?_
    clear hK K
    go_wp2_with (refine wp_want rfl fun K hK => ?_; refine wp_lab_store A1 rfl rfl rfl ?_)
    intro w7 C7 g7 z7
    refine hK _ _ ?_
    clear hK K
    go_wp2_with fail
    exact bodyPost_ret (results_lv2 rfl rfl rfl C7) rfl ⟨by simp, below_row b1 g7 (Nat.le_of_lt s1) (Nat.le_refl _)⟩
  · rw [takeLV_no h]
    have h' : 64 ≤ n := by omega
    go_enter Try.func34, Try.ntmps34
    go_wp2_with (refine wp_want rfl fun K hK => ?_; refine wp_rw_alloc (P := Try.prog) (t := 63) (lv 0 0) zeroLab rfl ?_)
    intro w1 A1 b1 s1
    refine hK _ _ ?_
    clear hK K
    go_wp2_with (refine wp_want rfl fun K hK => ?_; refine wp_rw_store (cs := #[.int .i64 0, .int .i64 0]) A1 infoLab rfl (lab_one _ _) rfl rfl rfl ?_)
    intro w7 C7 g7 z7
    refine hK _ _ ?_
    clear hK K
    go_wp2_with fail
    exact bodyPost_ret (results_lv2 rfl rfl rfl C7) rfl ⟨rfl, below_row b1 g7 (Nat.le_of_lt s1) (Nat.le_refl _)⟩
set_option maxRecDepth 100000 in
theorem refLabTake_any (n : Nat) (hn : n < 256) (w : World) : Calls Try.prog 35 #[.int .u8 n] w fun e w' => e = .returned (takeLV n) ∧ Below w.heap.size w w' := by
  by_cases h : n < 64
  · rw [takeLV_yes h]
    go_enter Try.func35, Try.ntmps35
    go_wp2_with (refine wp_want rfl fun K hK => ?_; refine wp_rw_alloc (P := Try.prog) (t := 63) (lv 0 0) zeroLab rfl ?_)
    intro w1 A1 b1 s1
    refine hK _ _ ?_
    clear hK K
    go_wp2_with (refine wp_want rfl fun K hK => ?_; refine wp_lab_store A1 rfl rfl rfl ?_)
    intro w7 C7 g7 z7
    refine hK _ _ ?_
    clear hK K
    go_wp2_with fail
    exact bodyPost_ret (results_lv2 rfl rfl rfl C7) rfl ⟨by simp, below_row b1 g7 (Nat.le_of_lt s1) (Nat.le_refl _)⟩
  · rw [takeLV_no h]
    have h' : 64 ≤ n := by omega
    go_enter Try.func35, Try.ntmps35
    go_wp2_with (refine wp_want rfl fun K hK => ?_; refine wp_rw_alloc (P := Try.prog) (t := 63) (lv 0 0) zeroLab rfl ?_)
    intro w1 A1 b1 s1
    refine hK _ _ ?_
    clear hK K
    go_wp2_with (refine wp_want rfl fun K hK => ?_; refine wp_rw_store (cs := #[.int .i64 0, .int .i64 0]) A1 infoLab rfl (lab_one _ _) rfl rfl rfl ?_)
    intro w7 C7 g7 z7
    refine hK _ _ ?_
    clear hK K
    go_wp2_with fail
    exact bodyPost_ret (results_lv2 rfl rfl rfl C7) rfl ⟨rfl, below_row b1 g7 (Nat.le_of_lt s1) (Nat.le_refl _)⟩

set_option maxRecDepth 100000 in
theorem lawOf_any (n : Nat) (hn : n < 256) (w : World) : Calls Try.prog 46 #[.int .u8 n] w fun e w' => e = .returned (lv ((n / 16 % 4 : Nat) : Int) ((n % 16 : Nat) : Int)) ∧ Below w.heap.size w w' := by
  go_enter Try.func46, Try.ntmps46
  go_wp2_with (refine wp_want rfl fun K hK => ?_; refine wp_rw_alloc (P := Try.prog) (t := 63) (lv 0 0) zeroLab rfl ?_)
  intro w1 A1 b1 s1
  refine hK _ _ ?_
  clear hK K
  go_wp2_with (refine wp_want rfl fun K hK => ?_; refine wp_lab_store A1 rfl rfl rfl ?_)
  intro w7 C7 g7 z7
  refine hK _ _ ?_
  clear hK K
  go_wp2_with fail
  exact bodyPost_ret (results_lv rfl rfl C7) rfl ⟨by simp, below_row b1 g7 (Nat.le_of_lt s1) (Nat.le_refl _)⟩
end Go.Proofs.Ytibpipppabommaa.Cl
