/- rec: Take of any log; begun. -/
import Derived.Test.YtgeiafijibgdhaaRec6
import Derived.Test.YtgeiafijibgdhaaRecP2
import Derived.Test.YtgeiafijibgdhaaWrE
import Derived.Test.YtgeiafijibgdhaaZigE
set_option linter.unusedVariables false
set_option linter.unusedSimpArgs false
namespace Go.Proofs.Ytgeiafijibgdhaa.Cl
open Go Go.Proofs Go.RowKit Fl Rely

theorem recTake_any (label : UInt8) (epoch seq : Nat) (v : Value) (L : List (List UInt8)) (w : World) (he : epoch < 4294967296) (hsq : seq < 4294967296) (hv : RdL w v L) :
    Calls Try.prog 35 #[u8 label, .int .u32 epoch, .int .u32 seq, v] w fun e w' => TakeIs label epoch seq L w.heap.size e w' ∧ Below w.heap.size w w' := by
  by_cases h : fitR L
  · exact recTake_yes label epoch seq v L w he hsq hv h
  · refine (recTake_no label epoch seq v L w hv h).mono ?_
    rintro e w' ⟨rfl, b⟩
    exact ⟨takeIs_no fun k => h k.1, b⟩
theorem RdW.one {w : World} {g : Nat} {x : Wr} (h : WrAt w g x) (hx : WrOk x) : RdW w (.slice (some ⟨g, 0, none⟩) 1 1) [x] := by
  refine ⟨some ⟨g, 0, none⟩, 1, rfl, Nat.le_refl _, by decide, fun k hk => ⟨⟨g, 0, none⟩, rfl, fun i u hu => ?_⟩, fun e => by cases e⟩
  obtain rfl : k = 0 := by simpa using hk
  rw [Nat.zero_mul, Addr.add_zero', Addr.add_lit, Nat.zero_add]
  exact RowAt.cell h i u (by simpa using hu)

set_option maxRecDepth 100000 in
set_option maxHeartbeats 4000000 in
theorem recBegun_any (w : World) : Calls Try.prog 32 #[] w fun e w' => e = .returned (.bool true) ∧ Below w.heap.size w w' := by
  have hok : okW [((1 : Int), (4 : Int), Z56)] := by decide +kernel
  have hw : ∀ x ∈ [((1 : Int), (4 : Int), Z56)], WrOk x := fun x hx => by
    obtain rfl := List.mem_singleton.1 hx
    exact Z56_length
  have hg := good_own (label := 3) (epoch := 2) (seq := 0) [] hok hw
  have hm := many_own (label := 3) (epoch := 2) (seq := 0) [] hok.2.2
  have hr := readAll_own (label := 3) (epoch := 2) (seq := 0) [] hok hw
  have hn : ¬ goodR 3 2 1 (recB 3 2 0 [((1 : Int), (4 : Int), Z56)] ++ []) := fun h => by
    have := good_head [] (by decide) (by decide) (by decide) (by decide) hok.2.2 h
    omega
  rw [List.append_nil] at hg hm hr hn
  rw [show [((1 : Int), (4 : Int), Z56)].length = 1 from rfl] at hm hr
  have hpl : (recB 3 2 0 [((1 : Int), (4 : Int), Z56)]).length = 2 := rfl
  have hP := fun v w hv => recPut_any 3 2 0 v [((1 : Int), (4 : Int), Z56)] w (by decide) (by decide) (by decide) hw hv
  generalize recB 3 2 0 [((1 : Int), (4 : Int), Z56)] = L at *
  have hT := fun v w hv => recTake_any 3 2 0 v L w (by decide) (by decide) hv
  have hT1 := fun v w hv => recTake_any 3 2 1 v L w (by decide) (by decide) hv
  have hA := fun w => anchor_any 3 9 w (by decide)
  have hA64 := anchorB_length 3 9
  have hAt := takeAnc_own 3 (e := 9) (by decide) (by decide)
  generalize anchorB 3 9 = la at *
  have hTA := fun v w hv => takeAnchor_any 3 v la w hv
  rw [hAt] at hTA
  simp only [ancV] at hTA
  have e3 : u8 3 = .int .u8 3 := rfl
  rw [e3] at hP hT hT1 hA hTA
  clear e3 hAt
  go_enter Try.func32, Try.ntmps32
  go_wp2_with (refine wp_want rfl fun K hK => ?_; first | (refine wp_blk_build rfl rfl ?_; refine hK _ _ ?_; clear hK K) | (refine wp_wr_build rfl rfl rfl ?_; refine hK _ _ ?_; clear hK K) | refine wp_wr_slice1 ((1 : Int), (4 : Int), Z56) Z56_length rfl rfl ?_)
  intro w1 A1 b1 s1
  refine hK _ _ ?_
  clear hK K
  have R1 := RdW.one A1 Z56_length
  have W := b1
  go_wp2_with fail
  refine (hP _ _ R1).mono ?_
  rintro e w2 ⟨hyes, _, b2⟩
  obtain ⟨u, rfl, hO⟩ := hyes hok
  clear hyes
  have W := W.trans (b2.mono W.size)
  have hV := hO.rd
  obtain ⟨va, vc, _, ev, _⟩ := hV.sl
  rw [hpl] at ev
  rw [ev] at hV ⊢
  clear ev hO
  have A2 := RowAt.later A1 b2
  go_wp2_with fail
  refine (hT _ _ hV).mono ?_
  rintro e w3 ⟨⟨hT3, _⟩, b3⟩
  obtain ⟨t, rfl, hO3⟩ := hT3 hg
  clear hT3
  rw [hm] at hO3 ⊢
  rw [hr] at hO3
  have W := W.trans (b3.mono W.size)
  have A3 := RowAt.later A2 b3
  have hV3 := hV.below b3
  go_wp2_with fail
  refine (hT1 _ _ hV3).mono ?_
  rintro e w4 ⟨⟨_, hT4⟩, b4⟩
  obtain rfl := hT4 hn
  have W := W.trans (b4.mono W.size)
  have A4 := RowAt.later A3 b4
  have hO4 := own_below hO3 b4
  go_wp2_with fail
  refine (hA _).mono ?_
  rintro e w5 ⟨a, rfl, hOa, b5⟩
  have W := W.trans (b5.mono W.size)
  have A5 := RowAt.later A4 b5
  have hO5 := own_below hO4 b5
  go_wp2_with fail
  refine (hTA _ _ hOa.rd).mono ?_
  rintro e w6 ⟨rfl, b6⟩
  have W := W.trans (b6.mono W.size)
  have A6 := RowAt.later A5 b6
  have hO6 := own_below hO5 b6
  obtain ⟨ga, ca, rfl, _⟩ := ob_shape hOa hA64 (by decide)
  have hRx : RdW w6 t [((1 : Int), (4 : Int), Z56)] := RdS.of_own (fun x hx => wrC_length (hw x hx)) (by simpa using hO6)
  obtain ⟨ax', cx, ex, _, _, hcx', _⟩ := hRx
  rw [show [((1 : Int), (4 : Int), Z56)].length = 1 from rfl] at ex
  subst ex
  obtain ⟨ax, rfl, hcx⟩ := hcx' 0 (by decide)
  rw [Nat.zero_mul, Addr.add_zero'] at hcx
  have hlx : (loadVar 71 ax).run Try.prog w6.drew = .ok (wrV (1, 4, Z56)) w6.drew := load_wr _ Z56_length (w := w6.drew) hcx
  have hly : (loadVar 71 ⟨w.heap.size, 0, none⟩).run Try.prog w6.drew = .ok (wrV (1, 4, Z56)) w6.drew := load_wr _ Z56_length (w := w6.drew) fun i u hu => by
    rw [Addr.add_lit, Nat.zero_add]
    exact RowAt.cell A6.drew i u (by simpa using hu)
  have hq := fun w => eql_wr (1, 4, Z56) (1, 4, Z56) Z56_length Z56_length w
  have hgd := fun a b w => guard_wr .eql a b (1, 4, Z56) (1, 4, Z56) w
  rw [decide_eq_true rfl] at hq
  clear hcx hO6 hO5 hO4 hO3 A6 A5 A4 A3 A2 A1 hV hV3 hOa R1 hP hT hT1 hA hTA hok hw hg hn hr hT4 hA64 hpl hm
  go_upto_region 7 with fail
  generalize wrV (1, 4, Z56) = V at *
  obtain ⟨w7, h7⟩ : ∃ x, x = w6.drew := ⟨_, rfl⟩
  have h7s := h7.symm
  have W : Below w.heap.size w w7 := by rw [h7]; exact below_drewN W 1
  rw [← h7] at hlx hly
  refine Zig.wp_region_zig [(false, 0), (false, 1), (false, 2), (false, 3), (false, 4), (false, 5), (false, 6), (false, 7), (false, 8), (false, 9), (false, 10), (false, 11), (false, 12), (false, 13), (false, 14), (false, 15), (false, 16), (false, 17), (false, 18), (false, 19), (false, 20), (false, 21), (false, 22), (false, 23), (false, 24), (false, 25), (false, 26), (false, 27), (false, 28), (false, 29), (false, 30), (false, 31), (false, 32), (false, 33), (false, 34), (false, 35), (false, 36), (false, 37), (false, 38), (false, 39), (false, 40), (false, 41), (false, 42), (false, 43)] (fun W => W = w7) (by kernel_rfl) (by kernel_rfl) h7s ?_
  simp only [Zig.sel, List.drop_succ_cons, List.drop_zero]
  generalize World.drew w6 = w8 at *
  haveI : Nonempty (Zig.Lt (fun W => W = w7)) := ⟨⟨w8, h7s⟩⟩
  have x0 : ∀ x : Zig.Lt (fun W => W = w7), (loadVar 71 ax).run Try.prog x.1 = .ok V x.1 := fun x => by rw [x.2]; exact hlx
  have x1 : ∀ x : Zig.Lt (fun W => W = w7), (loadVar 71 ⟨w.heap.size, 0, none⟩).run Try.prog x.1 = .ok V x.1 := fun x => by rw [x.2]; exact hly
  clear hlx hly h7
  repeat (first | refine Zig.zig_load x0 rfl rfl rfl ?_ | refine Zig.zig_load x1 rfl rfl rfl ?_ | refine Zig.zig_bin hgd hq rfl rfl rfl rfl ?_ | (refine Zig.zig_step (fun K hK => ?_); go_simp; refine hK _ ?_; clear hK K))
  refine Zig.zig_nil ?_
  subst h7s
  go_wp2_with fail
  go_ret
  exact ⟨rfl, W⟩
end Go.Proofs.Ytgeiafijibgdhaa.Cl
