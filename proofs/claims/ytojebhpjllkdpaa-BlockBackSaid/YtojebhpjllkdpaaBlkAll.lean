/- The law BlockAll. -/
import Derived.Test.YtojebhpjllkdpaaBlockB
import Derived.Test.YtojebhpjllkdpaaOpen
import Derived.Test.YtojebhpjllkdpaaOpen2
set_option linter.unusedVariables false
set_option linter.unusedSimpArgs false
namespace Go.Proofs.Ytojebhpjllkdpaa.Cl
open Go Go.Proofs Go.RowKit Fl Rely

theorem opBlk_form (l : UInt8) (a : Int) (x : List UInt8) : ∃ (k : Int) (b : List UInt8), b.length = 56 ∧ opBlk l a x = blkV k b := by
  unfold opBlk
  split
  · rename_i h
    refine ⟨_, _, bodyOf_length ?_, rfl⟩
    simp [opensAs] at h
    exact h.1.1
  · exact ⟨_, _, Z56_length, rfl⟩
theorem seal_both (label : UInt8) (k an : Int) (b : List UInt8) (hb : b.length = 56) : ∃ (L : List UInt8) (p : Bool), L.length ≤ 64 ∧
    (∀ w, Calls Try.prog 38 #[.int .u8 (label.toNat : Int), .int .i64 an, blkV k b] w fun e w' => ∃ u, e = .returned (.tuple #[u, .bool p]) ∧ OB w' w.heap.size u L ∧ Below w.heap.size w w') ∧
    (∀ w, Calls Try.prog 39 #[.int .u8 (label.toNat : Int), .int .i64 an, blkV k b] w fun e w' => ∃ u, e = .returned (.tuple #[u, .bool p]) ∧ OB w' w.heap.size u L ∧ Below w.heap.size w w') := by
  rcases hm : mayBlk k an with _ | _
  · exact ⟨[], false, by simp, fun w => (seal_no label k an b w hm hb).mono fun e w' ⟨h1, h2⟩ => ⟨_, h1, OB.nil _ _, h2⟩, fun w => (refSeal_no label k an b w hm hb).mono fun e w' ⟨h1, h2⟩ => ⟨_, h1, OB.nil _ _, h2⟩⟩
  · obtain ⟨kn, n, rfl, rfl, hk, hn⟩ : ∃ kn n : Nat, k = (kn : Int) ∧ an = (n : Int) ∧ kn ≤ 7 ∧ n < 200 := by
      simp [mayBlk] at hm
      exact ⟨k.toNat, an.toNat, by omega, by omega, by omega, by omega⟩
    exact ⟨_, true, by rw [sealed_length hb]; exact Nat.le_refl _, fun w => seal_any label kn n b w hk hn hb, fun w => refSeal_any label kn n b w hk hn hb⟩

set_option maxRecDepth 100000 in
set_option maxHeartbeats 8000000 in
theorem blkAll_law (label : UInt8) (an k : Int) (b : List UInt8) (v : Value) (l : List UInt8) (w : World) (hv : Rd w v (bs l)) (hb56 : b.length = 56) :
    Calls Try.prog 12 #[.int .u8 (label.toNat : Int), .int .i64 an, blkV k b, v] w fun e w' => e = .returned (.bool true) ∧ Below w.heap.size w w' := by
  obtain ⟨ad, cap, rfl, hc1, hc2, _, _⟩ := id hv
  rw [bs_length] at *
  go_enter Try.func12, Try.ntmps12
  go_wp2_with (refine wp_want rfl fun K hK => ?_; refine wp_blk_box rfl rfl hb56 ?_)
  intro w1 B1 b1 s1
  refine hK _ _ ?_
  clear hK K
  go_wp2_with fail
  refine (blkBegun_any _).mono ?_
  rintro e w2 ⟨rfl, b2⟩
  have B2 := B1.later b2
  have b2 := b1.trans (b2.mono b1.size)
  clear B1 b1 s1
  by_cases hbig : 80 < l.length
  · have hbi : (80 : Int) < (l.length : Int) := by omega
    go_wp2_with fail
    go_returns
    exact ⟨rfl, b2⟩
  · have hbi : ¬ ((80 : Int) < (l.length : Int)) := by omega
    have hv2 := hv.below b2
    go_wp2_with fail
    refine (out_any _ l w2 hv2 (by omega)).mono ?_
    rintro e w3 ⟨o, rfl, ho, b3⟩
    have B3 := B2.later b3
    have b3 := b2.trans (b3.mono b2.size)
    obtain ⟨L, p, hL, hs1, hs2⟩ := seal_both label k an b hb56
    clear B2 b2 hv2
    go_wp2_with (refine wp_want rfl fun K hK => ?_; refine wp_blk_load rfl rfl B3 ?_; refine hK _ _ ?_; clear hK K)
    refine (hs1 w3).mono ?_
    rintro e w4 ⟨u4, rfl, hO4, b4⟩
    have B4 := B3.later b4
    have ho4 := ho.below b4
    have b4 := b3.trans (b4.mono b3.size)
    clear B3 b3 ho hs1
    go_wp2_with (refine wp_want rfl fun K hK => ?_; refine wp_blk_load rfl rfl B4 ?_; refine hK _ _ ?_; clear hK K)
    refine (hs2 w4).mono ?_
    rintro e w5 ⟨u5, rfl, hO5, b5⟩
    have ho5 := ho4.below b5
    have hO4 := hO4.below b5
    have b5 := b4.trans (b5.mono b4.size)
    clear B4 b4 ho4 hs2
    go_wp2_with fail
    refine (open_any label an o l w5 ho5.rd).mono ?_
    rintro e w6 ⟨rfl, b6⟩
    obtain ⟨k6, x6, hx6, hop⟩ := opBlk_form label an l
    rw [hop]
    have ho6 := ho5.below b6
    have hO46 := hO4.below b6
    have hO56 := hO5.below b6
    have b6 := b5.trans (b6.mono b5.size)
    clear hO4 hO5 b5 ho5
    go_wp2_with (refine wp_want rfl fun K hK => ?_; refine wp_blk_alloc rfl ?_)
    intro v7 Y7 c7 s7
    refine hK _ _ ?_
    clear hK K
    go_wp2_with (refine wp_want rfl fun K hK => ?_; refine wp_blk_store rfl rfl rfl hx6 Y7 ?_)
    intro w7 X7 g7 z7
    refine hK _ _ ?_
    clear hK K
    have d7 := c7.grown g7 c7.size (fun k hk => by cases hk; exact Nat.le_refl _)
    have b7 := b6.trans (d7.mono b6.size)
    clear Y7 c7 s7 g7 z7
    have ho7 := ho6.below d7
    have hO47 := hO46.below d7
    have hO57 := hO56.below d7
    have hv7 := hv.below b7
    clear hO46 hO56 b6 ho6
    go_wp2_with fail
    refine (refOpen_any label an _ l w7 hv7).mono ?_
    rintro e w8 ⟨rfl, b8⟩
    rw [hop]
    clear hop
    have ho8 := ho7.below b8
    have hO48 := hO47.below b8
    have hO58 := hO57.below b8
    have X8 := X7.later b8
    have b8 := b7.trans (b8.mono b7.size)
    clear hO47 hO57 b7 ho7 X7 d7 hv7
    go_wp2_with (refine wp_want rfl fun K hK => ?_; refine wp_blk_alloc rfl ?_)
    intro v9 Y9 c9 s9
    refine hK _ _ ?_
    clear hK K
    go_wp2_with (refine wp_want rfl fun K hK => ?_; refine wp_blk_store rfl rfl rfl hx6 Y9 ?_)
    intro w9 X9 g9 z9
    refine hK _ _ ?_
    clear hK K
    have d9 := c9.grown g9 c9.size (fun k hk => by cases hk; exact Nat.le_refl _)
    have b9 := b8.trans (d9.mono b8.size)
    clear Y9 c9 s9 g9 z9
    have ho9 := ho8.below d9
    have hO49 := hO48.below d9
    have hO59 := hO58.below d9
    have hv9 := hv.below b9
    have X89 := X8.later d9
    clear hO48 hO58 b8 ho8 X8 d9
    have hs1 := run_string_of (P := Try.prog) hO49.rd 22 5 9 Try.underlying22 Try.underlying5 Try.underlying9
    have hs2 := run_string_of (P := Try.prog) hO59.rd 22 5 9 Try.underlying22 Try.underlying5 Try.underlying9
    generalize opensAs label an l = q at *
    go_wp2_with (refine wp_want rfl fun K hK => ?_; first | (refine wp_blk_load rfl rfl X89 ?_; refine hK _ _ ?_; clear hK K) | (refine wp_blk_load rfl rfl X9 ?_; refine hK _ _ ?_; clear hK K) | (refine wp_blk_eqlR true (decide_eq_true ⟨rfl, rfl⟩) rfl rfl rfl hx6 hx6 ?_; refine hK _ _ ?_; clear hK K))
    refine (intact_any _ _ l _ _ ho9 hv9 (by omega)).mono ?_
    rintro e w' ⟨rfl, rfl⟩
    go_wp2_with fail
    go_returns
    exact ⟨rfl, b9⟩
theorem blkAll_row (n0 an k : Int) (b : List UInt8) (v : Value) (l : List UInt8) (w : World) (w0 : (Lit.int .u8 n0).wf = true) (hv : Rd w v (bs l)) (hb56 : b.length = 56) :
    Calls Try.prog 12 #[.int .u8 n0, .int .i64 an, blkV k b, v] w fun e w' => e = .returned (.bool true) ∧ Below w.heap.size w w' := by
  obtain ⟨c, rfl⟩ := wf_u8 w0
  exact blkAll_law c an k b v l w hv hb56
end Go.Proofs.Ytojebhpjllkdpaa.Cl
