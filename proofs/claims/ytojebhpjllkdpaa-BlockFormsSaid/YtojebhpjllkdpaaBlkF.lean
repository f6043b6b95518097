/- The law BlockForms. -/
import Derived.Test.YtojebhpjllkdpaaBlkAll
set_option linter.unusedVariables false
set_option linter.unusedSimpArgs false
namespace Go.Proofs.Ytojebhpjllkdpaa.Cl
open Go Go.Proofs Go.RowKit Fl Rely

set_option maxRecDepth 100000 in
set_option maxHeartbeats 8000000 in
theorem blkForms_law (w : World) : Calls Try.prog 14 #[] w fun e w' => e = .returned (.bool true) ∧ Below w.heap.size w w' := by
  obtain ⟨i5, hi5, hz5, hs5, hb5⟩ := info_parts info5
  go_enter Try.func14, Try.ntmps14
  go_wp2_with fail
  refine (blkBegun_any _).mono ?_
  rintro e w0 ⟨rfl, b0⟩
  go_wp2_with (refine wp_want rfl fun K hK => ?_; first | refine wp_blk_alloc rfl ?_ | (refine wp_blk_build rfl rfl ?_; refine hK _ _ ?_; clear hK K))
  intro w1 B1 b1 s1
  refine hK _ _ ?_
  clear hK K
  go_wp2_with (refine wp_want rfl fun K hK => ?_; refine wp_blk_store rfl rfl rfl Z56_length B1 ?_)
  intro w2 B2 b2 s2
  refine hK _ _ ?_
  clear hK K
  have b2 := b1.grown b2 b1.size (fun k hk => by cases hk; exact Nat.le_refl _)
  clear B1 b1 s1 s2
  go_wp2_with (refine wp_want rfl fun K hK => ?_; refine wp_blk_byte (i := 0) (c := 1) rfl rfl rfl (by omega) rfl B2 ?_)
  intro w3 B3 g3 z3
  refine hK _ _ ?_
  clear hK K
  have b3 := b2.grown g3 b2.size (fun k hk => by cases hk; exact Nat.le_refl _)
  clear B2 b2 g3 z3
  go_wp2_with (refine wp_want rfl fun K hK => ?_; refine wp_blk_byte (i := 55) (c := 2) rfl rfl rfl (by omega) rfl B3 ?_)
  intro w4 B4 g4 z4
  refine hK _ _ ?_
  clear hK K
  have b4 := b3.grown g4 b3.size (fun k hk => by cases hk; exact Nat.le_refl _)
  clear B3 b3 g4 z4
  have hZ : ((Z56.set 0 1).set 55 2).length = 56 := by simp [Z56]
  have hZ0 : ((Z56.set 0 1).set 55 2)[0]? = some 1 := by decide
  have hZ5 : ((Z56.set 0 1).set 55 2)[55]? = some 2 := by decide
  generalize (Z56.set 0 1).set 55 2 = b at *
  go_wp2_with (refine wp_want rfl fun K hK => ?_; refine wp_blk_load rfl rfl B4 ?_; refine hK _ _ ?_; clear hK K)
  refine (seal_any 53 7 199 b w4 (by omega) (by omega) hZ).mono ?_
  rintro e w5 ⟨u, rfl, hO, b5⟩
  have B5 := B4.later b5
  have hlen := sealed_length (k := 7) (l := 53) (a := 199) hZ
  have c4 : (sealedB (body60 7 53 199 b))[4]? = some 1 := by
    show (b ++ be 4 _)[0]? = some 1
    rw [List.getElem?_append_left (by omega), hZ0]
  have c59 : (sealedB (body60 7 53 199 b))[59]? = some 2 := by
    show (b ++ be 4 _)[55]? = some 2
    rw [List.getElem?_append_left (by omega), hZ5]
  obtain ⟨gg, cc, rfl, hcc, hcell⟩ := hO.cell (by omega)
  have h0 := hcell 0 7 rfl
  have h1 := hcell 1 53 rfl
  have h2 := hcell 2 0 rfl
  have h3 := hcell 3 199 rfl
  have h4 := hcell 4 1 c4
  have h59 := hcell 59 2 c59
  have b5 := b4.trans (b5.mono b4.size)
  have hx63 : Rd w5 (.slice (some ⟨gg, 0, none⟩) 63 cc) (bs ((sealedB (body60 7 53 199 b)).take 63)) := by
    have := Rd.sub hO.rd 0 63 (by omega) (by rw [bs_length]; omega)
    rw [List.drop_zero] at this
    have e : sliced (some ⟨gg, 0, none⟩) 0 63 cc 1 = .slice (some ⟨gg, 0, none⟩) 63 cc := by unfold sliced; split <;> simp [Addr.add]
    rw [e] at this
    simpa [bs, List.map_take] using this
  have hcc63 : (63 : Int) ≤ (cc : Int) := by omega
  have hO := OB.mono hO b4.size
  rw [hlen] at hO ⊢
  clear hcell B4 b4
  go_wp2_with (refine wp_want rfl fun K hK => ?_; refine wp_blk_load rfl rfl B5 ?_; refine hK _ _ ?_; clear hK K)
  refine (seal_no 0 7 200 b w5 (by decide) hZ).mono ?_
  rintro e w6 ⟨rfl, b6⟩
  have B6 := B5.later b6
  have hx63 := hx63.below b6
  have hO := OB.below hO b6
  have b6 := b5.trans (b6.mono b5.size)
  clear B5 b5 c4 c59 h0 h1 h2 h3 h4 h59 hZ0 hZ5
  go_wp2_with (refine wp_want rfl fun K hK => ?_; refine wp_blk_load rfl rfl B6 ?_; refine hK _ _ ?_; clear hK K)
  refine (seal_no 0 7 (-1) b w6 (by decide) hZ).mono ?_
  rintro e w7 ⟨rfl, b7⟩
  have hx63 := hx63.below b7
  have hO := OB.below hO b7
  have b7 := b6.trans (b7.mono b6.size)
  clear B6 b6
  go_wp2_with (refine wp_want rfl fun K hK => ?_; refine wp_blk_build rfl rfl ?_; refine hK _ _ ?_; clear hK K)
  refine (seal_no 0 8 0 Z56 w7 (by decide) Z56_length).mono ?_
  rintro e w8 ⟨rfl, b8⟩
  have hx63 := hx63.below b8
  have hO := OB.below hO b8
  have b8 := b7.trans (b8.mono b7.size)
  clear b7
  go_wp2_with (refine wp_want rfl fun K hK => ?_; refine wp_blk_build rfl rfl ?_; refine hK _ _ ?_; clear hK K)
  refine (seal_no 0 (-1) 0 Z56 w8 (by decide) Z56_length).mono ?_
  rintro e w9 ⟨rfl, b9⟩
  have hx63 := hx63.below b9
  have hO := OB.below hO b9
  have b9 := b8.trans (b9.mono b8.size)
  clear b8
  go_wp2_with fail
  have q1 : opensAs 53 199 ((sealedB (body60 7 53 199 b)).take 63) = false := opens_len (by rw [List.length_take, hlen]; omega)
  have q2 := opBlk_no q1
  refine (open_any 53 199 _ _ w9 hx63).mono ?_
  rintro e w10 ⟨rfl, b10⟩
  rw [q1, q2]
  have hO := OB.below hO b10
  have b10 := b9.trans (b10.mono b9.size)
  clear b9 hx63 q1 q2
  go_wp2_with (refine wp_want rfl fun K hK => ?_; refine wp_blk_alloc rfl ?_)
  intro v11 Y11 c11 s11
  refine hK _ _ ?_
  clear hK K
  go_wp2_with (refine wp_want rfl fun K hK => ?_; refine wp_blk_store rfl rfl rfl Z56_length Y11 ?_)
  intro w11 X11 g11 z11
  refine hK _ _ ?_
  clear hK K
  have d11 := c11.grown g11 c11.size (fun k hk => by cases hk; exact Nat.le_refl _)
  have b11 := b10.trans (d11.mono b10.size)
  clear Y11 c11 s11 g11 z11
  have hO := OB.below hO d11
  clear X11 d11 b10
  have hbE := below_new w11 (.cells #[.int .u8 0] 5)
  have hO := OB.below hO hbE
  have h0r := rd_new w11 [0] 5 #[.int .u8 0] rfl 1 rfl (by omega)
  have b12 := b11.trans (hbE.mono b11.size)
  go_wp2_with (at_builtin; go_loud (refine wpList_app w0.heap.size _ _ _ [0] rfl _ _ rfl rfl rfl hO h0r (by rw [hlen]; simp) b12.size ?_))
  intro u13 w13 hO13 b13 _
  have b13 := b12.trans b13
  clear hO b12 hbE h0r b11
  have q1 : opensAs 53 199 (sealedB (body60 7 53 199 b) ++ [0]) = false := opens_len (by rw [List.length_append, hlen]; simp)
  have q2 := opBlk_no q1
  go_wp2_with fail
  refine (open_any 53 199 _ _ w13 hO13.rd).mono ?_
  rintro e w14 ⟨rfl, b14⟩
  rw [q1, q2]
  have b14 := b13.trans (b14.mono b13.size)
  clear b13 q1 q2 hO13
  go_wp2_with (refine wp_want rfl fun K hK => ?_; refine wp_blk_alloc rfl ?_)
  intro v15 Y15 c15 s15
  refine hK _ _ ?_
  clear hK K
  go_wp2_with (refine wp_want rfl fun K hK => ?_; refine wp_blk_store rfl rfl rfl Z56_length Y15 ?_)
  intro w15 X15 g15 z15
  refine hK _ _ ?_
  clear hK K
  have d15 := c15.grown g15 c15.size (fun k hk => by cases hk; exact Nat.le_refl _)
  have b15 := b14.trans (d15.mono b14.size)
  clear Y15 c15 s15 g15 z15
  clear X15 d15 b14
  go_wp2_with (at_make; go_loud (refine wpList_make_full _ rfl _ _ 22 rfl w0.heap.size 5 i5 (.int .u8 0) 1 Try.underlying22 hi5 hz5 hs5 _ _ 64 64 64 rfl rfl (by omega) (by omega) (by rw [hb5]; omega) (by unfold maxLen; omega) b15.size ?_))
  intro w16 hown hgr
  have b16 := b15.trans ((below_of_grown hgr).mono b15.size)
  have hm : (madeCells #[Value.int IntKind.u8 0] 64).toList = bs (List.replicate 64 0) := by
    unfold madeCells
    simp [bs, List.map_replicate]
    rfl
  have hO : OB w16 w0.heap.size (.slice (some ⟨w15.heap.size, 0, none⟩) 64 64) (List.replicate 64 0) := by
    rw [hm] at hown
    exact hown
  clear hown hgr hm b15
  have q1 : opensAs 0 0 (List.replicate 64 0) = false := by kernel_rfl
  have q2 := opBlk_no q1
  go_wp2_with fail
  refine (open_any 0 0 _ _ w16 hO.rd).mono ?_
  rintro e w17 ⟨rfl, b17⟩
  rw [q1, q2]
  have b17 := b16.trans (b17.mono b16.size)
  clear b16 q1 q2 hO
  go_wp2_with (refine wp_want rfl fun K hK => ?_; refine wp_blk_alloc rfl ?_)
  intro v18 Y18 c18 s18
  refine hK _ _ ?_
  clear hK K
  go_wp2_with (refine wp_want rfl fun K hK => ?_; refine wp_blk_store rfl rfl rfl Z56_length Y18 ?_)
  intro w18 X18 g18 z18
  refine hK _ _ ?_
  clear hK K
  have d18 := c18.grown g18 c18.size (fun k hk => by cases hk; exact Nat.le_refl _)
  have b18 := b17.trans (d18.mono b17.size)
  clear Y18 c18 s18 g18 z18
  go_wp2_with fail
  go_returns
  exact ⟨rfl, b0.trans (b18.mono b0.size)⟩
end Go.Proofs.Ytojebhpjllkdpaa.Cl
