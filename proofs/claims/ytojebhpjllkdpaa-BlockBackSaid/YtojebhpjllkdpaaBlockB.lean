/- begun of layer 6. -/
import Derived.Test.YtojebhpjllkdpaaBlock7
set_option linter.unusedVariables false
set_option linter.unusedSimpArgs false
namespace Go.Proofs.Ytojebhpjllkdpaa.Cl
open Go Go.Proofs Go.RowKit Fl Rely

theorem opBlk_no {l : UInt8} {a : Int} {x : List UInt8} (h : opensAs l a x = false) : opBlk l a x = blkV 0 Z56 := by simp [opBlk, h]
theorem OB.cell {w : World} {B : Nat} {v : Value} {l : List UInt8} (h : OB w B v l) (hl : 0 < l.length) : ∃ g cap, v = .slice (some ⟨g, 0, none⟩) l.length cap ∧ l.length ≤ cap ∧ ∀ j c, l[j]? = some c → w.cell? ⟨g, j, none⟩ = some (u8 c) := by
  obtain ⟨g, cap, rfl, h1, h2, h3, h4⟩ := own_shape h hl
  refine ⟨g, cap, rfl, by omega, fun j c hj => ?_⟩
  have hjl := (List.getElem?_eq_some_iff.1 hj).1
  have := World.ownsRow.cellAt h j (by omega)
  rw [this, List.getElem?_map, hj]
  rfl
set_option maxRecDepth 100000 in
set_option maxHeartbeats 8000000 in
theorem blkBegun_any (w : World) : Calls Try.prog 37 #[] w fun e w' => e = .returned (.bool true) ∧ Below w.heap.size w w' := by
  go_enter Try.func37, Try.ntmps37
  go_wp2_with (refine wp_want rfl fun K hK => ?_; first | refine wp_blk_alloc rfl ?_ | (refine wp_blk_build rfl rfl ?_; refine hK _ _ ?_; clear hK K))
  intro w1 B1 b1 s1
  refine hK _ _ ?_
  clear hK K
  go_wp2_with (refine wp_want rfl fun K hK => ?_; refine wp_blk_store rfl rfl rfl Z56_length B1 ?_)
  intro w2 B2 b2 s2
  refine hK _ _ ?_
  clear hK K
  have b2 := b1.grown b2 b1.size (fun k hk => by cases hk; exact Nat.le_refl _)
  clear B1 b1 s1 s2
  go_wp2_with (refine wp_want rfl fun K hK => ?_; refine wp_blk_byte (i := 0) (c := 5) rfl rfl rfl (by omega) rfl B2 ?_)
  intro w3 B3 g3 z3
  refine hK _ _ ?_
  clear hK K
  have b3 := b2.grown g3 b2.size (fun k hk => by cases hk; exact Nat.le_refl _)
  have hZ : (Z56.set 0 5).length = 56 := by simp [Z56]
  have hlt : w.heap.size < w3.heap.size := B3.lt
  clear B2 b2 g3 z3
  obtain ⟨b, hb5⟩ : ∃ b, b = Z56.set 0 5 := ⟨_, rfl⟩
  rw [← hb5] at B3 hZ
  clear hb5
  go_wp2_with (refine wp_want rfl fun K hK => ?_; refine wp_blk_load rfl rfl B3 ?_; refine hK _ _ ?_; clear hK K)
  refine (seal_any 3 4 7 b w3 (by omega) (by omega) hZ).mono ?_
  rintro e w4 ⟨u, rfl, hO, b4⟩
  have B4 := B3.later b4
  have b4 := b3.trans (b4.mono b3.size)
  have hlt4 : w.heap.size < w4.heap.size := B4.lt
  clear B3 b3 hlt
  go_wp2_with fail
  refine (open_any 3 7 u _ w4 hO.rd).mono ?_
  rintro e w5 ⟨rfl, b5⟩
  have q1 : opBlk 3 7 (sealedB (body60 4 3 7 b)) = blkV 4 b := opBlk_sealed (k := 4) (a := 7) (by omega) (by omega) hZ
  have q2 : opensAs 3 7 (sealedB (body60 4 3 7 b)) = true := (opens_sealed (k := 4) (a := 7) (a' := 7) (l := 3) (l' := 3) (by omega) (by omega) (by omega) hZ).trans (by decide)
  have q3 : opensAs 3 8 (sealedB (body60 4 3 7 b)) = false := (opens_sealed (k := 4) (a := 7) (a' := 8) (l := 3) (l' := 3) (by omega) (by omega) (by omega) hZ).trans (by decide)
  have q4 := opBlk_no q3
  rw [q1, q2]
  have hlen := sealed_length (k := 4) (l := 3) (a := 7) hZ
  have hO5 := hO.below b5
  have B5 := B4.later b5
  have b5 := b4.trans (b5.mono b4.size)
  have hlt5 : w.heap.size < w5.heap.size := B5.lt
  clear B4 b4 hlt4 hO q1 q2
  go_wp2_with (refine wp_want rfl fun K hK => ?_; refine wp_blk_alloc rfl ?_)
  intro v7 Y7 c7 s7
  refine hK _ _ ?_
  clear hK K
  go_wp2_with (refine wp_want rfl fun K hK => ?_; refine wp_blk_store rfl rfl rfl hZ Y7 ?_)
  intro w7 X7 g7 z7
  refine hK _ _ ?_
  clear hK K
  have d7 := c7.grown g7 c7.size (fun k hk => by cases hk; exact Nat.le_refl _)
  have b7 := b5.trans (d7.mono b5.size)
  have hO7 := hO5.below d7
  have B7 := B5.later d7
  clear hO5 B5 b5 hlt5 Y7 c7 s7 g7 z7 d7
  go_wp2_with fail
  refine (open_any 3 8 u _ w7 hO7.rd).mono ?_
  rintro e w8 ⟨rfl, b8⟩
  rw [q3, q4]
  have hO8 := hO7.below b8
  have B8 := B7.later b8
  have X8 := X7.later b8
  have b8 := b7.trans (b8.mono b7.size)
  clear hO7 B7 X7 b7 q3 q4
  go_wp2_with (refine wp_want rfl fun K hK => ?_; refine wp_blk_alloc rfl ?_)
  intro v9 Y9 c9 s9
  refine hK _ _ ?_
  clear hK K
  go_wp2_with (refine wp_want rfl fun K hK => ?_; refine wp_blk_store rfl rfl rfl Z56_length Y9 ?_)
  intro w9 X9 g9 z9
  refine hK _ _ ?_
  clear hK K
  have d9 := c9.grown g9 c9.size (fun k hk => by cases hk; exact Nat.le_refl _)
  have b9 := b8.trans (d9.mono b8.size)
  have hO9 := hO8.below d9
  have B9 := B8.later d9
  have X9' := X8.later d9
  clear hO8 B8 b8 X8 Y9 c9 s9 g9 z9 d9
  obtain ⟨gg, cc, rfl, hcc, hcell⟩ := hO9.cell (by omega)
  have h0 := hcell 0 4 rfl
  have h1 := hcell 1 3 rfl
  have h3 := hcell 3 7 rfl
  rw [hlen]
  clear hO9 hcell
  go_wp2_with (refine wp_want rfl fun K hK => ?_; first | (refine wp_blk_load rfl rfl X9' ?_; refine hK _ _ ?_; clear hK K) | (refine wp_blk_load rfl rfl B9 ?_; refine hK _ _ ?_; clear hK K) | (refine wp_blk_eqlR true (decide_eq_true ⟨rfl, rfl⟩) rfl rfl rfl hZ hZ ?_; refine hK _ _ ?_; clear hK K))
  go_returns
  exact ⟨rfl, b9⟩
end Go.Proofs.Ytojebhpjllkdpaa.Cl
