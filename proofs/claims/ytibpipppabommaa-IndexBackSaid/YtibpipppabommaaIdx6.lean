/- index.Pieces. -/
import Derived.Test.YtibpipppabommaaIdx5
import Derived.Test.YtibpipppabommaaPcs
set_option linter.unusedVariables false
set_option linter.unusedSimpArgs false
namespace Go.Proofs.Ytibpipppabommaa.Cl
open Go Go.Proofs Go.RowKit Fl Rely

theorem ret_pc {a b c a' b' c' : Int} {z : Value} (h1 : a = a') (h2 : b = b') (h3 : c = c') : Ending.returned (.tuple #[.agg #[.int .i64 a, .int .i64 b, .int .i64 c], z]) = .returned (.tuple #[.agg #[.int .i64 a', .int .i64 b', .int .i64 c'], z]) := by rw [h1, h2, h3]
def endP (x to : Nat) : Nat := min to ((x / 56 + 1) * 56)
set_option maxRecDepth 100000 in
set_option maxHeartbeats 4000000 in
theorem first_any (x to : Nat) (w : World) (h : x < to) (hto : to ≤ 1120) :
    Calls Try.prog 51 #[.complex .f64 (fl x) (fl to)] w fun e w' => e = .returned (.tuple #[.agg #[.int .i64 ((x / 56 : Nat) : Int), .int .i64 ((x - x / 56 * 56 : Nat) : Int), .int .i64 ((endP x to - x / 56 * 56 : Nat) : Int)], .complex .f64 (fl (endP x to)) (fl to)]) ∧ Below w.heap.size w w' := by
  have e1 := conv_fi Try.prog 85 3 .i64 x (by kernel_rfl) Try.underlying3 (by omega) (by rw [min64]; omega) (by rw [max64]; omega)
  have e2 := conv_fi Try.prog 85 3 .i64 to (by kernel_rfl) Try.underlying3 (by omega) (by rw [min64]; omega) (by rw [max64]; omega)
  have hE : min (to : Int) (((x : Int) / 56 + 1) * 56) = ((endP x to : Nat) : Int) := by unfold endP; omega
  have hle : x / 56 * 56 ≤ endP x to := by unfold endP; omega
  go_enter Try.func51, Try.ntmps51
  go_wp2_with fail
  go_returns
  exact ⟨ret_pc (by omega) (by omega) (by omega), by go_grown⟩
theorem pcs_cells_own {w : World} {B : Nat} : w.ownsRow B 38 3 (.slice none 0 0) 0 (pcCells []) := World.ownsRow_nil _ _ _ _
def sliceLen : Value → Nat | .slice _ n _ => n | _ => 0
theorem own_len {w : World} {B e s n : Nat} {v : Value} {xs : List Value} (h : w.ownsRow B e s v n xs) : sliceLen v = n := by
  rcases h.2 with ⟨h0, h1⟩ | ⟨k, cap, cur, hv, _⟩
  · rw [h0]; exact h1.symm
  · rw [hv]; rfl
theorem info38 : (Try.prog.info? 38).map (fun i => (i.zero, i.size, i.bytes)) = some (some (.agg #[.int .i64 0, .int .i64 0, .int .i64 0]), 3, 24) := by kernel_rfl
theorem wp_row_store {P : Program} {K : Act → World → Prop} {Q : Exit → Act → World → Prop} {o : Oper} {a : Act} {w : World} (ty : TypeId) (x y : Operand) (ho : o.op = .store ty x y)
    (g : Nat) (cells : Array Value) (hx : a.eval x = .pointer (some ⟨g, 0, none⟩)) (hy : a.eval y = .agg cells)
    (t : TypeId) (old : Array Value) (hg : w.heap[g]? = some (.cells old t (0, 0))) (hi : (P.info? ty).map (·.size) = some cells.size)
    (hold : old.size = cells.size) (h1 : cells.all (·.oneCell') = true)
    (h : ∀ w', w'.heap[g]? = some (.cells cells t (0, 0)) → w.grownBy w' (some g) → w'.heap.size = w.heap.size → K (a.put o.dst undef) w') : o.wp P a w K Q :=
  wp_store_row ty x y ho g cells hx hy t old hg hi hold h1 (h _ (heap_setRow_same hg) (grown_setRow _ _ _) (by simp [World.setRow]))
theorem pc_one (a b c : Int) : (#[Value.int .i64 a, Value.int .i64 b, Value.int .i64 c] : Array Value).all (·.oneCell') = true := by simp [Value.oneCell']
theorem infoPc : (Try.prog.info? 38).map (·.size) = some 3 := by kernel_rfl
set_option maxRecDepth 100000 in
set_option maxHeartbeats 1000000 in
theorem pieces_any (o n : Int) (w : World) : 
    Calls Try.prog 22 #[.int .i64 o, .int .i64 n] w fun e w' => ((o < 0 ∨ n < 0 ∨ 1120 < o ∨ 1120 - o < n) → e = .returned (.slice none 0 0)) ∧
      (¬ (o < 0 ∨ n < 0 ∨ 1120 < o ∨ 1120 - o < n) → ∃ u, e = .returned u ∧ w'.ownsRow w.heap.size 38 3 u (pcs o.toNat (o + n).toNat).length (pcCells (pcs o.toNat (o + n).toNat))) ∧ Below w.heap.size w w' := by
  by_cases hbad : o < 0 ∨ n < 0 ∨ 1120 < o ∨ 1120 - o < n
  · have HB := Lib.hid hbad
    by_cases h1 : o < 0
    · clear hbad
      go_enter Try.func22, Try.ntmps22
      go_wp2_with fail
      go_step3
      go_wp2_with fail
      simp only [Exit.noGoto]
      go_returns
      exact ⟨fun _ => rfl, fun h => (h HB.out).elim, Below.refl _ _⟩
    · by_cases h2 : n < 0
      · clear hbad
        go_enter Try.func22, Try.ntmps22
        go_wp2_with fail
        go_step3
        go_wp2_with fail
        simp only [Exit.noGoto]
        go_returns
        exact ⟨fun _ => rfl, fun h => (h HB.out).elim, Below.refl _ _⟩
      · by_cases h3 : 1120 < o
        · clear hbad
          go_enter Try.func22, Try.ntmps22
          go_wp2_with fail
          go_step3
          go_wp2_with fail
          simp only [Exit.noGoto]
          go_returns
          exact ⟨fun _ => rfl, fun h => (h HB.out).elim, Below.refl _ _⟩
        · have h4 : 1120 - o < n := by omega
          have e4 : wrap64 (1120 - o) = 1120 - o := IntWalk.wrap64_in _ (by omega)
          clear hbad
          go_enter Try.func22, Try.ntmps22
          go_wp2_with fail
          go_step3
          go_wp2_with fail
          simp only [Exit.noGoto]
          go_returns
          exact ⟨fun _ => rfl, fun h => (h HB.out).elim, Below.refl _ _⟩
  · obtain ⟨x, rfl⟩ : ∃ x : Nat, o = (x : Int) := ⟨o.toNat, by omega⟩
    obtain ⟨m, rfl⟩ : ∃ m : Nat, n = (m : Int) := ⟨n.toNat, by omega⟩
    obtain ⟨e, he⟩ : ∃ e : Nat, e = x + m := ⟨_, rfl⟩
    have hd : ((x : Int) + (m : Int)) = (e : Int) := by omega
    have he1 : e ≤ 1120 := by omega
    have hxe : x ≤ e := by omega
    rw [hd]
    simp only [Int.toNat_natCast]
    have Hbad := Lib.hid hbad
    have Hd := Lib.hid hd
    clear hd he
    have h3 : (x : Int) ≤ 1120 := by omega
    have h4 : (m : Int) ≤ 1120 - (x : Int) := by omega
    clear hbad
    have hfo : ∀ n : Int, floatOfInt FloatKind.f64 n = fl n := fun _ => rfl
    obtain ⟨i38, hi38, hz38, hs38, hb38⟩ := info_parts info38
    go_enter Try.func22, Try.ntmps22
    go_wp2_with fail
    refine wp_scope_jumps 0 (fun a' w' => ∃ y u, (y ≤ e ∧ x ≤ y ∧ (y = x ∨ y % 56 = 0 ∨ y = e) ∧ w'.ownsRow w.heap.size 38 3 u (pcs x y).length (pcCells (pcs x y)) ∧ Below w.heap.size w w') ∧ ∃ (z0 z1 z2 z3 z6 z7 z8 z9 z10 z11 z12 z13 z14 z15 z16 z17 z18 z19 z20 z21 z22 z23 z24 z25 z26 z27 z28 z29 z30 z31 z32 z33 z34 z35 z36 z37 z38 z39 z40 z41 z42 z43 z44 : Value), a' = { tmps := #[z0, z1, z2, z3, u, .complex .f64 (fl (y : Nat)) (fl e), z6, z7, z8, z9, z10, z11, z12, z13, z14, z15, z16, z17, z18, z19, z20, z21, z22, z23, z24, z25, z26, z27, z28, z29, z30, z31, z32, z33, z34, z35, z36, z37, z38, z39, z40, z41, z42, z43, z44], defers := [] }) (fun a' _ => 1000 - sliceLen (a'.tmps.getD 4 undef)) rfl ?_ ?_
    · go_wp2_with fail
      rw [Hd.out]
      go_step3
      have hb := Below.refl w.heap.size w
      have hown : w.ownsRow w.heap.size 38 3 (.slice none 0 0) (pcs x x).length (pcCells (pcs x x)) := by rw [pcs_self]; exact pcs_cells_own
      by_cases hlt : x < e
      · have hc : (FloatKind.f64.format.order (fl x) (fl e) == some .lt) = true := by rw [lss_fl _ _ (by omega) (by omega)]; exact decide_eq_true (by omega)
        go_wp2_with fail
        refine (first_any x e _ hlt he1).mono ?_
        rintro ee w5 ⟨rfl, hb5⟩
        have hle : endP x e ≤ e := by unfold endP; omega
        have hgt : x < endP x e := by unfold endP; omega
        have hend : endP x e ≤ (x / 56 + 1) * 56 := by unfold endP; omega
        have hcase : endP x e = x ∨ endP x e % 56 = 0 ∨ endP x e = e := by unfold endP; omega
        have hp := Lib.hid (pcs_part (o := x) (x := x) (e := endP x e) (Nat.le_refl _) (.inl rfl) hgt hend)
        clear hend
        generalize endP x e - x / 56 * 56 = pt at *
        generalize x - x / 56 * 56 = pf at *
        generalize x / 56 = pk at *
        generalize endP x e = ye at *
        have hg0 := heap_alloc_last w (.cells #[.int .i64 0, .int .i64 0, .int .i64 0] 38)
        have hg5 := (hb5.block w.heap.size (by simp)).trans hg0
        have hlt5 : w.heap.size < w5.heap.size := by have := hb5.size; simp at this; omega
        have hn5 := below_new_then hb5
        have hown5 := own_below hown hn5
        go_wp2_with (refine wp_want rfl fun K hK => ?_; (refine wp_row_store 38 _ _ rfl w.heap.size _ rfl rfl 38 _ hg5 infoPc rfl (pc_one _ _ _) ?_))
        intro w6 hg6 hgr6 hz6
        have hn6 : Below w.heap.size w w6 := below_grown hn5 hgr6 (Nat.le_refl _) (Nat.le_refl _)
        clear hz6
        refine hK _ _ ?_
        clear hK K
        have hown6 := own_below hown hn6
        have hb6 := hb.trans (hn6.mono hb.size)
        go_wp2_with (first | (refine wp_want rfl fun K hK => ?_; refine wp_load_row 38 _ rfl w.heap.size rfl 38 _ _ _ hg6 Try.underlying38 rfl infoPc ?_; refine hK _ _ ?_; clear hK K) | (at_builtin; go_loud (refine wpList_append_own _ rfl _ _ 33 rfl w.heap.size 38 i38 _ 3 24 Try.underlying33 hi38 hz38 hs38 hb38 rfl (by decide) _ _ (pcCells (pcs x x)) rfl (own_below hown6 (below_new w6 _)) ⟨w6.heap.size, 0, none⟩ 1 1 [.int .i64 (pk : Int), .int .i64 (pf : Int), .int .i64 (pt : Int)] rfl rfl (new_cells w6 #[.int .i64 (pk : Int), .int .i64 (pf : Int), .int .i64 (pt : Int)] _) (by intro u hu; simp at hu; rcases hu with rfl | rfl | rfl <;> rfl) (by unfold maxLen; rw [pcs_length]; have := pcN_le (o := x) (e := x) (by omega); omega) (by rw [pcs_length]; have := pcN_le (o := x) (e := x) (by omega); omega) (Nat.le_trans hb6.size (le_new _ _)) ?_)))
        intro u7 w7 hown7 hgr7 _
        have hb7 : Below w.heap.size w w7 := below_own (hb6.trans (below_mono (below_new _ _) hb6.size)) hgr7 (Nat.le_trans hb6.size (le_new _ _)) (own_ge (own_below hown6 (below_new w6 (.cells #[] 0))))
        have hl7 : (pcs x (ye)).length = (pcs x x).length + 1 := by rw [hp.out, List.length_append]; rfl
        have hown7' : w7.ownsRow w.heap.size 38 3 u7 (pcs x (ye)).length (pcCells (pcs x (ye))) := by
          rw [hl7, hp.out, pcCells_snoc]
          exact hown7
        go_wp2_with fail
        go_step3
        refine ⟨rfl, ye, _, ?_, _, _, _, _, _, _, _, _, _, _, _, _, _, _, _, _, _, _, _, _, _, _, _, _, _, _, _, _, _, _, _, _, _, _, _, _, _, _, _, _, _, _, _, rfl⟩
        exact ⟨hle, Nat.le_of_lt hgt, hcase, hown7', hb7⟩
      · have hc : (FloatKind.f64.format.order (fl x) (fl e) == some .lt) = false := by rw [lss_fl _ _ (by omega) (by omega)]; exact decide_eq_false (by omega)
        have hYe : x = e := by omega
        have hown2 : w.ownsRow w.heap.size 38 3 (.slice none 0 0) (pcs x e).length (pcCells (pcs x e)) := by rw [show pcs x e = pcs x x from congrArg (pcs x) hYe.symm]; exact hown
        clear hYe hown
        go_wp2_with fail
        simp only [Exit.jump]
        go_returns
        exact ⟨fun h => (Hbad.out h).elim, fun _ => ⟨_, rfl, hown2⟩, hb⟩
    · skip
      rintro aq wq ⟨y, u, ⟨hy1, hy2, hy3, hown, hb⟩, z0, z1, z2, z3, z6, z7, z8, z9, z10, z11, z12, z13, z14, z15, z16, z17, z18, z19, z20, z21, z22, z23, z24, z25, z26, z27, z28, z29, z30, z31, z32, z33, z34, z35, z36, z37, z38, z39, z40, z41, z42, z43, z44, rfl⟩
      by_cases hlt : y < e
      · have hc : (FloatKind.f64.format.order (fl y) (fl e) == some .lt) = true := by rw [lss_fl _ _ (by omega) (by omega)]; exact decide_eq_true (by omega)
        go_wp2_with fail
        refine (first_any y e _ hlt he1).mono ?_
        rintro ee w5 ⟨rfl, hb5⟩
        have hle : endP y e ≤ e := by unfold endP; omega
        have hgt : y < endP y e := by unfold endP; omega
        have hend : endP y e ≤ (y / 56 + 1) * 56 := by unfold endP; omega
        have hcase : endP y e = x ∨ endP y e % 56 = 0 ∨ endP y e = e := by unfold endP; omega
        have hp := Lib.hid (pcs_part (o := x) (x := y) (e := endP y e) hy2 (by omega) hgt hend)
        clear hend
        generalize endP y e - y / 56 * 56 = pt at *
        generalize y - y / 56 * 56 = pf at *
        generalize y / 56 = pk at *
        generalize endP y e = ye at *
        have hg0 := heap_alloc_last wq (.cells #[.int .i64 0, .int .i64 0, .int .i64 0] 38)
        have hg5 := (hb5.block wq.heap.size (by simp)).trans hg0
        have hlt5 : wq.heap.size < w5.heap.size := by have := hb5.size; simp at this; omega
        have hn5 := below_new_then hb5
        have hown5 := own_below hown hn5
        go_wp2_with (refine wp_want rfl fun K hK => ?_; (refine wp_row_store 38 _ _ rfl wq.heap.size _ rfl rfl 38 _ hg5 infoPc rfl (pc_one _ _ _) ?_))
        intro w6 hg6 hgr6 hz6
        have hn6 : Below wq.heap.size wq w6 := below_grown hn5 hgr6 (Nat.le_refl _) (Nat.le_refl _)
        clear hz6
        refine hK _ _ ?_
        clear hK K
        have hown6 := own_below hown hn6
        have hb6 := hb.trans (hn6.mono hb.size)
        go_wp2_with (first | (refine wp_want rfl fun K hK => ?_; refine wp_load_row 38 _ rfl wq.heap.size rfl 38 _ _ _ hg6 Try.underlying38 rfl infoPc ?_; refine hK _ _ ?_; clear hK K) | (at_builtin; go_loud (refine wpList_append_own _ rfl _ _ 33 rfl w.heap.size 38 i38 _ 3 24 Try.underlying33 hi38 hz38 hs38 hb38 rfl (by decide) _ _ (pcCells (pcs x y)) rfl (own_below hown6 (below_new w6 _)) ⟨w6.heap.size, 0, none⟩ 1 1 [.int .i64 (pk : Int), .int .i64 (pf : Int), .int .i64 (pt : Int)] rfl rfl (new_cells w6 #[.int .i64 (pk : Int), .int .i64 (pf : Int), .int .i64 (pt : Int)] _) (by intro u hu; simp at hu; rcases hu with rfl | rfl | rfl <;> rfl) (by unfold maxLen; rw [pcs_length]; have := pcN_le (o := x) (e := y) (by omega); omega) (by rw [pcs_length]; have := pcN_le (o := x) (e := y) (by omega); omega) (Nat.le_trans hb6.size (le_new _ _)) ?_)))
        intro u7 w7 hown7 hgr7 _
        have hb7 : Below w.heap.size w w7 := below_own (hb6.trans (below_mono (below_new _ _) hb6.size)) hgr7 (Nat.le_trans hb6.size (le_new _ _)) (own_ge (own_below hown6 (below_new w6 (.cells #[] 0))))
        have hl7 : (pcs x (ye)).length = (pcs x y).length + 1 := by rw [hp.out, List.length_append]; rfl
        have hown7' : w7.ownsRow w.heap.size 38 3 u7 (pcs x (ye)).length (pcCells (pcs x (ye))) := by
          rw [hl7, hp.out, pcCells_snoc]
          exact hown7
        go_wp2_with fail
        go_step3
        refine ⟨rfl, ⟨ye, _, ?_, _, _, _, _, _, _, _, _, _, _, _, _, _, _, _, _, _, _, _, _, _, _, _, _, _, _, _, _, _, _, _, _, _, _, _, _, _, _, _, _, _, _, _, rfl⟩, ?_⟩
        · exact ⟨hle, Nat.le_trans hy2 (Nat.le_of_lt hgt), hcase, hown7', hb7⟩
        · show 1000 - sliceLen u7 < 1000 - sliceLen u
          rw [own_len hown7', own_len hown, hl7, pcs_length]
          have := pcN_le (o := x) (e := y) (by omega)
          omega
      · have hc : (FloatKind.f64.format.order (fl y) (fl e) == some .lt) = false := by rw [lss_fl _ _ (by omega) (by omega)]; exact decide_eq_false (by omega)
        have hYe : y = e := by omega
        have hown2 : wq.ownsRow w.heap.size 38 3 u (pcs x e).length (pcCells (pcs x e)) := by rw [show pcs x e = pcs x y from congrArg (pcs x) hYe.symm]; exact hown
        clear hYe hown
        go_wp2_with fail
        simp only [Exit.jump]
        go_returns
        exact ⟨fun h => (Hbad.out h).elim, fun _ => ⟨_, rfl, hown2⟩, hb⟩
end Go.Proofs.Ytibpipppabommaa.Cl
