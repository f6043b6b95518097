/- The laws of layer 3. -/
import Derived.Test.YtojebhpjllkdpaaSum
set_option linter.unusedVariables false
set_option linter.unusedSimpArgs false
namespace Go.Proofs.Ytojebhpjllkdpaa.Cl
open Go Go.Proofs Go.RowKit Fl

theorem sumAll_law (v : Value) (l : List UInt8) (w : World) (hv : Rd w v (bs l)) :
    Calls Try.prog 3 #[v] w fun e w' => e = .returned (.bool true) ∧ Below w.heap.size w w' := by
  have hv' := hv
  obtain ⟨a, cap, rfl, hc1, hc2, _, _⟩ := hv
  rw [List.length_map] at *
  by_cases hl : l.length ≤ 300
  · go_enter Try.func3, Try.ntmps3
    go_wp2_with fail
    refine (sumBegun_any _).mono ?_
    rintro e w1 ⟨rfl, hb1⟩
    have hr1 := hv'.below hb1
    go_wp2_with fail
    refine (out_any _ l _ hr1 (by omega)).mono ?_
    rintro e w2 ⟨o, rfl, ho, hb2⟩
    have hr2 := hr1.below hb2
    go_wp2_with fail
    refine (sum_any _ l _ ho.rd).mono ?_
    rintro e w' ⟨rfl, rfl⟩
    go_wp2_with fail
    refine (refSum_any _ l _ hr2).mono ?_
    rintro e w' ⟨rfl, rfl⟩
    go_wp2_with fail
    refine (intact_any _ _ l _ _ ho hr2 (by omega)).mono ?_
    rintro e w' ⟨rfl, rfl⟩
    go_wp2_with fail
    go_ret
    exact ⟨rfl, below_trans hb1 hb2 hb1.size⟩
  · go_enter Try.func3, Try.ntmps3
    go_wp2_with fail
    refine (sumBegun_any _).mono ?_
    rintro e w1 ⟨rfl, hb1⟩
    go_wp2_with fail
    go_ret
    exact ⟨rfl, hb1⟩

theorem sumTurned_law (v : Value) (l : List UInt8) (at_ : Nat) (to : UInt8) (w : World) (hv : Rd w v (bs l)) (hat : at_ < 65536) :
    Calls Try.prog 4 #[v, .int .u16 (at_ : Int), .int .u8 (to.toNat : Int)] w fun e w' => e = .returned (.bool true) ∧ Below w.heap.size w w' := by
  obtain ⟨i5, hi5, hz5, hs5, hb5⟩ := info_parts info5
  have hv' := hv
  obtain ⟨a, cap, rfl, hc1, hc2, hcell, _⟩ := hv
  rw [List.length_map] at *
  by_cases hl : 1 ≤ l.length ∧ l.length ≤ 300
  · obtain ⟨hl1, hl2⟩ := hl
    go_enter Try.func4, Try.ntmps4
    go_wp2_with fail
    refine (sumBegun_any _).mono ?_
    rintro e w1 ⟨rfl, hb1⟩
    have hr1 := hv'.below hb1
    have hr2 := hr1.below (below_new w1 (.cells #[] 5))
    have ho1 := World.ownsRow_lit (e := 5) (size := 1) w1 #[] 0 (Nat.le_refl w1.heap.size) (by decide) rfl
    go_wp2_with (at_builtin; refine wpList_append_rd rfl _ _ 22 rfl w1.heap.size 5 i5 (.int .u8 0) 1 Try.underlying22 hi5 hz5 hs5 hb5 rfl _ _ 0 [] (bs l) rfl rfl ho1 hr2 (oneCell_bs l) (by rw [bs_length]; unfold maxLen; omega) (by rw [bs_length]; omega) (le_new _ _) ?_)
    intro c w2 hown hgrow hnil
    have hbel := below_own (below_new w1 _) hgrow (le_new _ _) (own_ge ho1)
    clear hgrow hr2 ho1
    obtain ⟨g, cc, rfl, hg1, hg2, hg3, hg4⟩ := own_shape hown (by omega)
    go_upto_region 7 with (fail)
    obtain ⟨k, hk⟩ : ∃ k : Nat, k = at_ % l.length := ⟨_, rfl⟩
    have ek : (at_ : Int) % (l.length : Int) = (k : Int) := by omega
    have hkl : k < l.length := by rw [hk]; exact Nat.mod_lt _ (by omega)
    rw [ek]
    clear hk ek
    have hcx := hown.cellAt k (by omega)
    rw [List.getElem?_eq_getElem (by rw [bs_length]; exact hkl), List.getElem_map] at hcx
    have hfx := hown.frozenAt k
    have hc3 := Rd.of_own (hown.stored k (u8 to)).1
    rw [bs_set] at hc3
    have hb3 : Below w1.heap.size w1 (w2.setCell ⟨g, k, none⟩ (.int .u8 (to.toNat : Int))) := hbel.setCell hg1 _
    have hr3 := hr1.below hb3
    obtain ⟨ad, rfl, hsx⟩ := hcell k (by rw [List.length_map]; exact hkl)
    rw [List.getElem_map] at hsx
    have hsx := cell_later hb3 (cell_later hb1 hsx)
    clear hcell
    go_wp2_with fail
    have hq1 : ∀ n, Rd ((w2.setCell ⟨g, k, none⟩ (.int .u8 (to.toNat : Int))).drewN n) _ _ := fun n => hc3.drewN n
    have hq2 : ∀ n, Rd ((w2.setCell ⟨g, k, none⟩ (.int .u8 (to.toNat : Int))).drewN n) _ _ := fun n => hr3.drewN n
    go_quiet (first | (go_at_call 17; exact quiet_eq (sum_any _ _ _ (hq1 _))) | (go_at_call 17; exact quiet_eq (sum_any _ _ _ (hq2 _))))
    go_wp2
    go_ret
    refine ⟨ret_bool ?_, below_drewN (below_trans hb1 hb3 hb1.size) _⟩
    exact turned_eq l k hkl to
  · go_enter Try.func4, Try.ntmps4
    go_wp2_with fail
    refine (sumBegun_any _).mono ?_
    rintro e w1 ⟨rfl, hb1⟩
    go_wp2_with fail
    all_goals (go_ret; exact ⟨rfl, hb1⟩)

theorem sumSwapped_law (v : Value) (l : List UInt8) (at_ : Nat) (w : World) (hv : Rd w v (bs l)) (hat : at_ < 65536) :
    Calls Try.prog 6 #[v, .int .u16 (at_ : Int)] w fun e w' => e = .returned (.bool true) ∧ Below w.heap.size w w' := by
  obtain ⟨i5, hi5, hz5, hs5, hb5⟩ := info_parts info5
  have hv' := hv
  obtain ⟨a, cap, rfl, hc1, hc2, hcell, _⟩ := hv
  rw [List.length_map] at *
  by_cases hl : 2 ≤ l.length ∧ l.length ≤ 300
  · obtain ⟨hl1, hl2⟩ := hl
    go_enter Try.func6, Try.ntmps6
    go_wp2_with fail
    refine (sumBegun_any _).mono ?_
    rintro e w1 ⟨rfl, hb1⟩
    have hr1 := hv'.below hb1
    have hr2 := hr1.below (below_new w1 (.cells #[] 5))
    have ho1 := World.ownsRow_lit (e := 5) (size := 1) w1 #[] 0 (Nat.le_refl w1.heap.size) (by decide) rfl
    go_wp2_with (at_builtin; refine wpList_append_rd rfl _ _ 22 rfl w1.heap.size 5 i5 (.int .u8 0) 1 Try.underlying22 hi5 hz5 hs5 hb5 rfl _ _ 0 [] (bs l) rfl rfl ho1 hr2 (oneCell_bs l) (by rw [bs_length]; unfold maxLen; omega) (by rw [bs_length]; omega) (le_new _ _) ?_)
    intro c w2 hown hgrow hnil
    have hbel := below_own (below_new w1 _) hgrow (le_new _ _) (own_ge ho1)
    clear hgrow hr2 ho1
    obtain ⟨g, cc, rfl, hg1, hg2, hg3, hg4⟩ := own_shape hown (by omega)
    go_wp2_with fail
    obtain ⟨k, hk⟩ : ∃ k : Nat, k = at_ % (l.length - 1) := ⟨_, rfl⟩
    have ek : (at_ : Int) % ((l.length : Int) - 1) = (k : Int) := by
      have e1 : (l.length : Int) - 1 = ((l.length - 1 : Nat) : Int) := by omega
      rw [e1]; omega
    have hkl : k + 1 < l.length := by have := Nat.mod_lt at_ (show 0 < l.length - 1 by omega); omega
    rw [ek]
    clear hk ek
    have hcx := hown.cellAt k (by omega)
    have hcy := hown.cellAt (k + 1) (by omega)
    rw [List.getElem?_eq_getElem (by rw [bs_length]; omega), List.getElem_map] at hcx hcy
    have hfx := hown.frozenAt k
    have hfy := hown.frozenAt (k + 1)
    have hb3 : Below w1.heap.size w1 ((w2.setCell ⟨g, k, none⟩ (.int .u8 (l[k + 1].toNat : Int))).setCell ⟨g, k + 1, none⟩ (.int .u8 (l[k].toNat : Int))) := (hbel.setCell hg1 _).setCell hg1 _
    have hr3 := hr1.below hb3
    have hc3 := Rd.of_own (((hown.stored k (u8 l[k + 1])).1).stored (k + 1) (u8 l[k])).1
    rw [bs_set, bs_set] at hc3
    obtain ⟨ad, rfl, hsx⟩ := hcell k (by rw [List.length_map]; omega)
    obtain ⟨ad', had, hsy⟩ := hcell (k + 1) (by rw [List.length_map]; omega)
    obtain rfl := Option.some.inj had
    clear had
    rw [List.getElem_map] at hsx hsy
    have hsx := cell_later hb3 (cell_later hb1 hsx)
    have hsy := cell_later hb3 (cell_later hb1 hsy)
    clear hcell
    go_region
    go_wp2_with fail
    have hb4 := hb3.drew
    have hr4 := hr3.drew
    have hc4 := hc3.drew
    have hsx4 := cell_drew hsx
    have hsy4 := cell_drew hsy
    rw [Addr.add_succ'] at hsy4
    clear hb3 hr3 hc3 hsx hsy
    generalize World.drew _ = W at *
    have hk0 : k < l.length := by omega
    have hkI : (k : Int) + 1 < (l.length : Int) := by omega
    have hk1 : 0 ≤ (k : Int) + 1 := by omega
    have ew : IntKind.i64.wrap ((k : Int) + 1) = (k : Int) + 1 := IntWalk.i64_in _ (by omega)
    have et : ((k : Int) + 1).toNat = k + 1 := by omega
    have hq1 : ∀ n, Rd (W.drewN n) _ _ := fun n => hc4.drewN n
    have hq2 : ∀ n, Rd (W.drewN n) _ _ := fun n => hr4.drewN n
    go_quiet (first | (go_at_call 17; exact quiet_eq (sum_any _ _ _ (hq1 _))) | (go_at_call 17; exact quiet_eq (sum_any _ _ _ (hq2 _))))
    go_wp2
    go_ret
    refine ⟨ret_bool (swapped_eq l k hkl), below_drewN (below_trans hb1 hb4 hb1.size) _⟩
  · go_enter Try.func6, Try.ntmps6
    go_wp2_with fail
    refine (sumBegun_any _).mono ?_
    rintro e w1 ⟨rfl, hb1⟩
    go_wp2_with fail
    all_goals (go_ret; exact ⟨rfl, hb1⟩)

def z60 : List UInt8 := List.replicate 60 0
theorem sumForms_law (w : World) :
    Calls Try.prog 5 #[] w fun e w' => e = .returned (.bool true) ∧ Below w.heap.size w w' := by
  obtain ⟨i5, hi5, hz5, hs5, hb5⟩ := info_parts info5
  have kc := fun (w : World) (C : Array Value) (n c : Nat) => Lib.run_convert_bytes_const (P := Try.prog) w 22 5 C n c Try.underlying22 Try.underlying5
  have hmk := run_make_n (P := Try.prog) 22 5 i5 (.int .u8 0) Try.underlying22 hi5 hz5 hs5 rfl 60 60 rfl (by rw [hb5]; decide) (by decide)
  have hb1 : (((sumN [0] : Nat) : Int) == 65537) = true := by decide
  have hb2 : (((sumN z60 : Nat) : Int) == 3932161) = true := by decide +kernel
  have hb3 : (((sumN [87, 105, 107, 105, 112, 101, 100, 105, 97] : Nat) : Int) == 300286872) = true := by decide +kernel
  have hb4 : (((sumN [255] : Nat) : Int) == 16777472) = true := by decide
  go_enter Try.func5, Try.ntmps5
  go_wp2_with fail
  refine (sumBegun_any _).mono ?_
  rintro e w1 ⟨rfl, hb1⟩
  go_wp2_with fail
  refine (forget (sum_any _ [0] _ (Rd.new w1 #[.int .u8 0] _ _ _ rfl (by decide)))).mono ?_
  rintro e w2 ⟨rfl, g1⟩
  have g1 := below_new_then g1
  go_wp2_with fail
  have hrd := Rd.new w2 (List.replicate 60 (.int .u8 0)).toArray 5 (0, 0) 60 (by rw [List.size_toArray, List.length_replicate]) (by rw [List.size_toArray, List.length_replicate]; decide)
  rw [List.toList_toArray, show List.replicate 60 (.int .u8 0) = bs z60 from List.map_replicate.symm] at hrd
  refine (forget (sum_any _ z60 _ hrd)).mono ?_
  rintro e w3 ⟨rfl, g2⟩
  have g2 := below_new_then g2
  clear hrd
  go_wp2_with fail
  refine (forget (sum_any _ [87, 105, 107, 105, 112, 101, 100, 105, 97] _ (Rd.new w3 #[.int .u8 87, .int .u8 105, .int .u8 107, .int .u8 105, .int .u8 112, .int .u8 101, .int .u8 100, .int .u8 105, .int .u8 97] _ _ _ rfl (by decide)))).mono ?_
  rintro e w4 ⟨rfl, g3⟩
  have g3 := below_new_then g3
  go_wp2_with fail
  refine (forget (sum_any _ [255] _ (Rd.new w4 #[.int .u8 255] _ _ _ rfl (by decide)))).mono ?_
  rintro e w5 ⟨rfl, g4⟩
  have g4 := below_new_then g4
  go_wp2_with fail
  go_ret
  exact ⟨rfl, below_trans (below_trans (below_trans (below_trans hb1 g1 hb1.size) g2 (Nat.le_trans hb1.size g1.size)) g3 (Nat.le_trans hb1.size (Nat.le_trans g1.size g2.size))) g4 (Nat.le_trans hb1.size (Nat.le_trans g1.size (Nat.le_trans g2.size g3.size)))⟩

theorem sumTurned_row (v : Value) (l : List UInt8) (n1 n2 : Int) (w : World) (hv : Rd w v (bs l)) (w1 : (Lit.int .u16 n1).wf = true) (w2 : (Lit.int .u8 n2).wf = true) :
    Calls Try.prog 4 #[v, .int .u16 n1, .int .u8 n2] w fun e w' => e = .returned (.bool true) ∧ Below w.heap.size w w' := by
  obtain ⟨m, rfl, hm⟩ := wf_u16 w1
  obtain ⟨b, rfl⟩ := wf_u8 w2
  exact sumTurned_law v l m b w hv hm
theorem sumSwapped_row (v : Value) (l : List UInt8) (n1 : Int) (w : World) (hv : Rd w v (bs l)) (w1 : (Lit.int .u16 n1).wf = true) :
    Calls Try.prog 6 #[v, .int .u16 n1] w fun e w' => e = .returned (.bool true) ∧ Below w.heap.size w w' := by
  obtain ⟨m, rfl, hm⟩ := wf_u16 w1
  exact sumSwapped_law v l m w hv hm
end Go.Proofs.Ytojebhpjllkdpaa.Cl
