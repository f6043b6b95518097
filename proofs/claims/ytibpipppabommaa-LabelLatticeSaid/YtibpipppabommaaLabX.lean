/- The law LabelLattice (printed by mklat.py). -/
import Derived.Test.YtibpipppabommaaLab8
import Derived.Test.YtibpipppabommaaZag
import Derived.Deep.DeepCutAuto
set_option linter.unusedVariables false
set_option linter.unusedSimpArgs false
namespace Go.Proofs.Ytibpipppabommaa.Cl
open Go Go.Proofs Go.RowKit Fl Rely

theorem cellG {w w' : World} {g i k : Nat} {v : Value} (h : w.cell? ⟨g, i, none⟩ = some v) (hg : w.grownBy w' (some k)) (hn : g ≠ k) : w'.cell? ⟨g, i, none⟩ = some v := by
  rw [← h]
  simp only [World.cell?]
  rw [hg.block g (World.block_lt_of_cell? _ _ h) fun e => hn (Option.some.inj e)]
set_option maxRecDepth 100000 in
set_option maxHeartbeats 16000000 in
theorem labLattice_law (n0 n1 n2 : Nat) (w : World) (l0 : n0 < 256) (l1 : n1 < 256) (l2 : n2 < 256) : Calls Try.prog 10 #[.int .u8 n0, .int .u8 n1, .int .u8 n2] w fun e w' => e = .returned (.bool true) ∧ Below w.heap.size w w' := by
  obtain ⟨a, ka, fa⟩ := lawOf_p n0 l0
  obtain ⟨b, kb, fb⟩ := lawOf_p n1 l1
  obtain ⟨c, kc, fc⟩ := lawOf_p n2 l2
  obtain ⟨J, hJ⟩ : ∃ x : Nat × Nat, x = jn a b := ⟨_, rfl⟩
  have kJ : OkP J := by rw [hJ]; exact jn_ok ka kb
  have ct1 : ∀ w, Calls Try.prog 40 #[lvp a, lvp b] w fun e w' => e = .returned (lvp J) ∧ Below w.heap.size w w' := fun w => by
    have h := join_p a b ka kb w
    rwa [show jn a b = J from hJ.symm] at h
  obtain ⟨M, hM⟩ : ∃ x : Nat × Nat, x = mt a b := ⟨_, rfl⟩
  have kM : OkP M := by rw [hM]; exact mt_ok ka kb
  have ct2 : ∀ w, Calls Try.prog 42 #[lvp a, lvp b] w fun e w' => e = .returned (lvp M) ∧ Below w.heap.size w w' := fun w => by
    have h := meet_p a b ka kb w
    rwa [show mt a b = M from hM.symm] at h
  have ct3 : ∀ w, Calls Try.prog 40 #[lvp a, lvp M] w fun e w' => e = .returned (lvp a) ∧ Below w.heap.size w w' := fun w => by
    have h := join_p a M ka kM w
    rwa [show jn a M = a from by rw [hM]; exact jn_mt_absorb a b] at h
  have ct4 : ∀ w, Calls Try.prog 42 #[lvp a, lvp J] w fun e w' => e = .returned (lvp a) ∧ Below w.heap.size w w' := fun w => by
    have h := meet_p a J ka kJ w
    rwa [show mt a J = a from by rw [hJ]; exact mt_jn_absorb a b] at h
  have ct5 : ∀ w, Calls Try.prog 40 #[lvp b, lvp a] w fun e w' => e = .returned (lvp J) ∧ Below w.heap.size w w' := fun w => by
    have h := join_p b a kb ka w
    rwa [show jn b a = J from by rw [hJ]; exact jn_comm b a] at h
  obtain ⟨p1, hp1⟩ : ∃ x, ab a b = x := ⟨_, rfl⟩
  have ct6 : ∀ w, Calls Try.prog 38 #[lvp a, lvp b] w fun e w' => e = .returned (.bool p1) ∧ Below w.heap.size w w' := fun w => by
    have h := above_p a b ka kb w
    rwa [show ab a b = p1 from hp1] at h
  obtain ⟨p2, hp2⟩ : ∃ x, ab b a = x := ⟨_, rfl⟩
  have ct7 : ∀ w, Calls Try.prog 38 #[lvp b, lvp a] w fun e w' => e = .returned (.bool p2) ∧ Below w.heap.size w w' := fun w => by
    have h := above_p b a kb ka w
    rwa [show ab b a = p2 from hp2] at h
  obtain ⟨p3, hp3⟩ : ∃ x, ab b c = x := ⟨_, rfl⟩
  have ct8 : ∀ w, Calls Try.prog 38 #[lvp b, lvp c] w fun e w' => e = .returned (.bool p3) ∧ Below w.heap.size w w' := fun w => by
    have h := above_p b c kb kc w
    rwa [show ab b c = p3 from hp3] at h
  obtain ⟨p4, hp4⟩ : ∃ x, ab a c = x := ⟨_, rfl⟩
  have ct9 : ∀ w, Calls Try.prog 38 #[lvp a, lvp c] w fun e w' => e = .returned (.bool p4) ∧ Below w.heap.size w w' := fun w => by
    have h := above_p a c ka kc w
    rwa [show ab a c = p4 from hp4] at h
  obtain ⟨p5, hp5⟩ : ∃ x, ab c a = x := ⟨_, rfl⟩
  have ct10 : ∀ w, Calls Try.prog 38 #[lvp c, lvp a] w fun e w' => e = .returned (.bool p5) ∧ Below w.heap.size w w' := fun w => by
    have h := above_p c a kc ka w
    rwa [show ab c a = p5 from hp5] at h
  obtain ⟨p6, hp6⟩ : ∃ x, ab c b = x := ⟨_, rfl⟩
  have ct11 : ∀ w, Calls Try.prog 38 #[lvp c, lvp b] w fun e w' => e = .returned (.bool p6) ∧ Below w.heap.size w w' := fun w => by
    have h := above_p c b kc kb w
    rwa [show ab c b = p6 from hp6] at h
  obtain ⟨p7, hp7⟩ : ∃ x, ab c J = x := ⟨_, rfl⟩
  have ct12 : ∀ w, Calls Try.prog 38 #[lvp c, lvp J] w fun e w' => e = .returned (.bool p7) ∧ Below w.heap.size w w' := fun w => by
    have h := above_p c J kc kJ w
    rwa [show ab c J = p7 from hp7] at h
  obtain ⟨p8, hp8⟩ : ∃ x, ab M c = x := ⟨_, rfl⟩
  have ct13 : ∀ w, Calls Try.prog 38 #[lvp M, lvp c] w fun e w' => e = .returned (.bool p8) ∧ Below w.heap.size w w' := fun w => by
    have h := above_p M c kM kc w
    rwa [show ab M c = p8 from hp8] at h
  have ct14 : ∀ w, Calls Try.prog 38 #[lvp a, lvp a] w fun e w' => e = .returned (.bool true) ∧ Below w.heap.size w w' := fun w => by
    have h := above_p a a ka ka w
    rwa [show ab a a = true from ab_self a] at h
  have ct15 : ∀ w, Calls Try.prog 38 #[lvp J, lvp a] w fun e w' => e = .returned (.bool true) ∧ Below w.heap.size w w' := fun w => by
    have h := above_p J a kJ ka w
    rwa [show ab J a = true from by rw [hJ]; exact ab_jn1 a b] at h
  have ct16 : ∀ w, Calls Try.prog 38 #[lvp J, lvp b] w fun e w' => e = .returned (.bool true) ∧ Below w.heap.size w w' := fun w => by
    have h := above_p J b kJ kb w
    rwa [show ab J b = true from by rw [hJ]; exact ab_jn2 a b] at h
  have ct17 : ∀ w, Calls Try.prog 38 #[lvp a, lvp M] w fun e w' => e = .returned (.bool true) ∧ Below w.heap.size w w' := fun w => by
    have h := above_p a M ka kM w
    rwa [show ab a M = true from by rw [hM]; exact ab_mt1 a b] at h
  have ct18 : ∀ w, Calls Try.prog 38 #[lvp b, lvp M] w fun e w' => e = .returned (.bool true) ∧ Below w.heap.size w w' := fun w => by
    have h := above_p b M kb kM w
    rwa [show ab b M = true from by rw [hM]; exact ab_mt2 a b] at h
  have x1 : p1 = true → p2 = true → a = b := fun h h' => by subst hp1; subst hp2; exact ab_anti h h'
  have x2 : p1 = true → p3 = true → p4 = true := fun h h' => by subst hp1; subst hp3; subst hp4; exact ab_trans h h'
  have x3 : p5 = true → p6 = true → p7 = true := fun h h' => by subst hp5; subst hp6; subst hp7; rw [hJ]; exact ab_lub h h'
  have x4 : p4 = true → p3 = true → p8 = true := fun h h' => by subst hp4; subst hp3; subst hp8; rw [hM]; exact ab_glb h h'
  have eJ := fun w => eq_p J a p1 (by rw [← hp1, hJ]; rfl) w
  have eM := fun w => eq_p M b p1 (by rw [← hp1, ab_mt, hM]) w
  have ea := fun w => eq_p a a true (by simp) w
  have eJJ := fun w => eq_p J J true (by simp) w
  obtain ⟨px, hpx⟩ : ∃ x, (!decide (a = b)) = x := ⟨_, rfl⟩
  have ex := fun w => ne_p a b px hpx w
  have x5 : p1 = true → p2 = true → px = false := fun h h' => by rw [← hpx, x1 h h']; simp
  clear hp1 hp2 hp3 hp4 hp5 hp6 hp7 hp8 hpx x1 hJ hM
  skip
  go_enter Try.func10, Try.ntmps10
  go_wp2_with fail
  refine (labBegun_any _).mono ?_
  rintro e w1 ⟨rfl, h1⟩
  have W := h1
  have nh1 := h1.size
  clear h1
  go_wp2_with fail
  refine (fa _).mono ?_
  rintro e w2 ⟨rfl, h2⟩
  have W := W.trans (h2.mono W.size)
  have nh2 := h2.size
  clear h2
  go_wp2_with fail
  refine (fb _).mono ?_
  rintro e w3 ⟨rfl, h3⟩
  have W := W.trans (h3.mono W.size)
  have nh3 := h3.size
  clear h3
  go_wp2_with fail
  refine (fc _).mono ?_
  rintro e w4 ⟨rfl, h4⟩
  have W := W.trans (h4.mono W.size)
  have nh4 := h4.size
  clear h4
  clear fa fb fc
  go_wp2_with (refine wp_want rfl fun K hK => ?_; refine wp_rw_alloc (P := Try.prog) (t := 63) (lv 0 0) zeroLab rfl ?_)
  intro w5 R5 b5 s5
  refine hK _ _ ?_
  clear hK K
  have W := W.trans (b5.mono W.size)
  have nb5 := b5.size
  have A := R5
  clear R5 b5
  go_wp2_with (refine wp_want rfl fun K hK => ?_; refine wp_rw_alloc (P := Try.prog) (t := 63) (lv 0 0) zeroLab rfl ?_)
  intro w6 R6 b6 s6
  refine hK _ _ ?_
  clear hK K
  have A := A.later b6
  have W := W.trans (b6.mono W.size)
  have nb6 := b6.size
  have B := R6
  clear R6 b6
  go_wp2_with (refine wp_want rfl fun K hK => ?_; refine wp_rw_alloc (P := Try.prog) (t := 63) (lv 0 0) zeroLab rfl ?_)
  intro w7 R7 b7 s7
  refine hK _ _ ?_
  clear hK K
  have A := A.later b7
  have B := B.later b7
  have W := W.trans (b7.mono W.size)
  have nb7 := b7.size
  have C := R7
  clear R7 b7
  go_wp2_with (refine wp_want rfl fun K hK => ?_; refine wp_lab_store A rfl rfl rfl ?_)
  intro w8 R8 g8 z8
  refine hK _ _ ?_
  clear hK K
  have B := B.grown g8 (by omega)
  have C := C.grown g8 (by omega)
  have W := below_row W g8 (by omega) (by omega)
  have A := R8
  clear R8 g8
  go_wp2_with (refine wp_want rfl fun K hK => ?_; refine wp_lab_store B rfl rfl rfl ?_)
  intro w9 R9 g9 z9
  refine hK _ _ ?_
  clear hK K
  have A := A.grown g9 (by omega)
  have C := C.grown g9 (by omega)
  have W := below_row W g9 (by omega) (by omega)
  have B := R9
  clear R9 g9
  go_wp2_with (refine wp_want rfl fun K hK => ?_; refine wp_lab_store C rfl rfl rfl ?_)
  intro w10 R10 g10 z10
  refine hK _ _ ?_
  clear hK K
  have A := A.grown g10 (by omega)
  have B := B.grown g10 (by omega)
  have W := below_row W g10 (by omega) (by omega)
  have C := R10
  clear R10 g10
  go_upto_region 4 with fail
  have hdr : Below w10.heap.size w10 w10.drew := (Below.refl _ _).drew
  have HS : w10.drew.cell? ⟨w4.heap.size, 0, none⟩ = some (.int .i64 (a.1 : Int)) ∧ w10.drew.cell? ⟨w4.heap.size, 1, none⟩ = some (.int .i64 (a.2 : Int)) ∧ w10.drew.cell? ⟨w5.heap.size, 0, none⟩ = some (.int .i64 (b.1 : Int)) ∧ w10.drew.cell? ⟨w5.heap.size, 1, none⟩ = some (.int .i64 (b.2 : Int)) := ⟨A.cell 0 _ rfl, A.cell 1 _ rfl, B.cell 0 _ rfl, B.cell 1 _ rfl⟩
  go_cut [10, 11] (fun p q wx => ∃ g h : Nat, p = .pointer (some ⟨g, 0, none⟩) ∧ q = .pointer (some ⟨h, 0, none⟩) ∧ RowAt wx g 63 #[.int .i64 (J.1 : Int), .int .i64 (J.2 : Int)] ∧ RowAt wx h 63 #[.int .i64 (M.1 : Int), .int .i64 (M.2 : Int)] ∧ Below w10.heap.size w10 wx)
  case first =>
    as_aux_lemma =>
      refine Zag.wp_region_zag 10 [0, 1, 3, 4] (fun W => W.cell? ⟨w4.heap.size, 0, none⟩ = some (.int .i64 (a.1 : Int)) ∧ W.cell? ⟨w4.heap.size, 1, none⟩ = some (.int .i64 (a.2 : Int)) ∧ W.cell? ⟨w5.heap.size, 0, none⟩ = some (.int .i64 (b.1 : Int)) ∧ W.cell? ⟨w5.heap.size, 1, none⟩ = some (.int .i64 (b.2 : Int))) rfl (by kernel_rfl) (by kernel_rfl) HS ?_
      generalize World.drew w10 = wd at *
      haveI : Nonempty (Zig.Lt (fun W => W.cell? ⟨w4.heap.size, 0, none⟩ = some (.int .i64 (a.1 : Int)) ∧ W.cell? ⟨w4.heap.size, 1, none⟩ = some (.int .i64 (a.2 : Int)) ∧ W.cell? ⟨w5.heap.size, 0, none⟩ = some (.int .i64 (b.1 : Int)) ∧ W.cell? ⟨w5.heap.size, 1, none⟩ = some (.int .i64 (b.2 : Int)))) := ⟨⟨wd, HS⟩⟩
      haveI : Nonempty (Zig.Lt (fun _ : World => True)) := ⟨⟨wd, trivial⟩⟩
      have y0 := fun x : Zig.Lt (fun W => W.cell? ⟨w4.heap.size, 0, none⟩ = some (.int .i64 (a.1 : Int)) ∧ W.cell? ⟨w4.heap.size, 1, none⟩ = some (.int .i64 (a.2 : Int)) ∧ W.cell? ⟨w5.heap.size, 0, none⟩ = some (.int .i64 (b.1 : Int)) ∧ W.cell? ⟨w5.heap.size, 1, none⟩ = some (.int .i64 (b.2 : Int))) => x.2.1
      have y1 := fun x : Zig.Lt (fun W => W.cell? ⟨w4.heap.size, 0, none⟩ = some (.int .i64 (a.1 : Int)) ∧ W.cell? ⟨w4.heap.size, 1, none⟩ = some (.int .i64 (a.2 : Int)) ∧ W.cell? ⟨w5.heap.size, 0, none⟩ = some (.int .i64 (b.1 : Int)) ∧ W.cell? ⟨w5.heap.size, 1, none⟩ = some (.int .i64 (b.2 : Int))) => x.2.2.1
      have y2 := fun x : Zig.Lt (fun W => W.cell? ⟨w4.heap.size, 0, none⟩ = some (.int .i64 (a.1 : Int)) ∧ W.cell? ⟨w4.heap.size, 1, none⟩ = some (.int .i64 (a.2 : Int)) ∧ W.cell? ⟨w5.heap.size, 0, none⟩ = some (.int .i64 (b.1 : Int)) ∧ W.cell? ⟨w5.heap.size, 1, none⟩ = some (.int .i64 (b.2 : Int))) => x.2.2.2.1
      have y3 := fun x : Zig.Lt (fun W => W.cell? ⟨w4.heap.size, 0, none⟩ = some (.int .i64 (a.1 : Int)) ∧ W.cell? ⟨w4.heap.size, 1, none⟩ = some (.int .i64 (a.2 : Int)) ∧ W.cell? ⟨w5.heap.size, 0, none⟩ = some (.int .i64 (b.1 : Int)) ∧ W.cell? ⟨w5.heap.size, 1, none⟩ = some (.int .i64 (b.2 : Int))) => x.2.2.2.2
      repeat (first | (refine Zag.zag_light [0, 1, 3, 4] rfl rfl (by kernel_rfl) rfl (fun K hK => ?_); go_simp; refine hK _ ?_; clear hK K) | (refine Zag.zag_read [0, 1, 3, 4] rfl rfl (by kernel_rfl) rfl (fun K hK => ?_); go_simp; refine hK _ ?_; clear hK K))
      clear y0 y1 y2 y3
      have nwd := hdr.size
      refine Zag.zag_branch [2, 6, 7] rfl ?_
      refine Zag.each_do rfl rfl (fun K hK => ?_) ?_
      · skip
        unfold Oper.wp
        go_simp
        refine (ct1 _).mono ?_
        rintro e v1 ⟨rfl, q1⟩
        have nq1 := q1.size
        have HS := And.intro (cell_later q1 HS.1) (And.intro (cell_later q1 HS.2.1) (And.intro (cell_later q1 HS.2.2.1) (cell_later q1 HS.2.2.2)))
        have hdr := hdr.trans (q1.mono hdr.size)
        clear q1
        refine hK _ _ HS ?_
        clear hK K
        as_aux_lemma =>
          refine Zag.zag_branch [5, 6, 7] rfl ?_
          refine Zag.each_do rfl rfl (fun K hK => ?_) ?_
          · skip
            unfold Oper.wp
            go_simp
            refine (ct2 _).mono ?_
            rintro e v2 ⟨rfl, q2⟩
            have nq2 := q2.size
            have HS := And.intro (cell_later q2 HS.1) (And.intro (cell_later q2 HS.2.1) (And.intro (cell_later q2 HS.2.2.1) (cell_later q2 HS.2.2.2)))
            have hdr := hdr.trans (q2.mono hdr.size)
            clear q2
            refine hK _ _ HS ?_
            clear hK K
            as_aux_lemma =>
              refine Zag.zag_branch [6, 7] rfl ?_
              refine Zag.each_do rfl rfl (fun K hK => ?_) ?_
              · skip
                refine wp_rw_alloc (P := Try.prog) (t := 63) (lv 0 0) zeroLab rfl ?_
                intro v3 R6 q3 s6
                have nq3 := q3.size
                have HS := And.intro (cell_later q3 HS.1) (And.intro (cell_later q3 HS.2.1) (And.intro (cell_later q3 HS.2.2.1) (cell_later q3 HS.2.2.2)))
                have hdr := hdr.trans (q3.mono hdr.size)
                clear q3
                refine hK _ _ HS ?_
                clear hK K
                as_aux_lemma =>
                  refine Zag.zag_branch [7] rfl ?_
                  refine Zag.each_do rfl rfl (fun K hK => ?_) ?_
                  · skip
                    refine wp_rw_alloc (P := Try.prog) (t := 63) (lv 0 0) zeroLab rfl ?_
                    intro v4 R7 q4 s7
                    have R6 := R6.later q4
                    have nq4 := q4.size
                    have HS := And.intro (cell_later q4 HS.1) (And.intro (cell_later q4 HS.2.1) (And.intro (cell_later q4 HS.2.2.1) (cell_later q4 HS.2.2.2)))
                    have hdr := hdr.trans (q4.mono hdr.size)
                    clear q4
                    refine hK _ _ HS ?_
                    clear hK K
                    as_aux_lemma =>
                      refine Zag.zag_branch [8] rfl ?_
                      refine Zag.each_do rfl rfl (fun K hK => ?_) ?_
                      · skip
                        refine wp_lab_store R6 rfl rfl rfl ?_
                        intro v5 T6 g6 z6
                        have R7 := R7.grown g6 (by omega)
                        have R6 := T6
                        have hdr := below_row hdr g6 hdr.size (by omega)
                        have HS := And.intro (cellG HS.1 g6 (by omega)) (And.intro (cellG HS.2.1 g6 (by omega)) (And.intro (cellG HS.2.2.1 g6 (by omega)) (cellG HS.2.2.2 g6 (by omega))))
                        clear T6 g6
                        refine hK _ _ HS ?_
                        clear hK K
                        as_aux_lemma =>
                          refine Zag.zag_branch [9] rfl ?_
                          refine Zag.each_end rfl rfl (by kernel_rfl) (fun K hK => ?_) ?_
                          · skip
                            refine wp_lab_store R7 rfl rfl rfl ?_
                            intro v6 T7 g7 z7
                            have R6 := R6.grown g7 (by omega)
                            have R7 := T7
                            have hdr := below_row hdr g7 hdr.size (by omega)
                            clear T7 g7
                            refine hK _ _ ?_
                            clear hK K
                            refine Zag.zag_nil ?_
                            go_wp2_with fail
                            go_meet
                            exact ⟨_, _, rfl, rfl, R6, R7, hdr⟩
                          exact Zag.each_nil
                      exact Zag.each_nil
                  exact Zag.each_nil
              refine Zag.each_do rfl rfl (fun K hK => ?_) ?_
              · skip
                refine wp_rw_alloc (P := Try.prog) (t := 63) (lv 0 0) zeroLab rfl ?_
                intro v3 R7 q3 s7
                have nq3 := q3.size
                have HS := And.intro (cell_later q3 HS.1) (And.intro (cell_later q3 HS.2.1) (And.intro (cell_later q3 HS.2.2.1) (cell_later q3 HS.2.2.2)))
                have hdr := hdr.trans (q3.mono hdr.size)
                clear q3
                refine hK _ _ HS ?_
                clear hK K
                as_aux_lemma =>
                  refine Zag.zag_branch [6] rfl ?_
                  refine Zag.each_do rfl rfl (fun K hK => ?_) ?_
                  · skip
                    refine wp_rw_alloc (P := Try.prog) (t := 63) (lv 0 0) zeroLab rfl ?_
                    intro v4 R6 q4 s6
                    have R7 := R7.later q4
                    have nq4 := q4.size
                    have HS := And.intro (cell_later q4 HS.1) (And.intro (cell_later q4 HS.2.1) (And.intro (cell_later q4 HS.2.2.1) (cell_later q4 HS.2.2.2)))
                    have hdr := hdr.trans (q4.mono hdr.size)
                    clear q4
                    refine hK _ _ HS ?_
                    clear hK K
                    as_aux_lemma =>
                      refine Zag.zag_branch [8] rfl ?_
                      refine Zag.each_do rfl rfl (fun K hK => ?_) ?_
                      · skip
                        refine wp_lab_store R6 rfl rfl rfl ?_
                        intro v5 T6 g6 z6
                        have R7 := R7.grown g6 (by omega)
                        have R6 := T6
                        have hdr := below_row hdr g6 hdr.size (by omega)
                        have HS := And.intro (cellG HS.1 g6 (by omega)) (And.intro (cellG HS.2.1 g6 (by omega)) (And.intro (cellG HS.2.2.1 g6 (by omega)) (cellG HS.2.2.2 g6 (by omega))))
                        clear T6 g6
                        refine hK _ _ HS ?_
                        clear hK K
                        as_aux_lemma =>
                          refine Zag.zag_branch [9] rfl ?_
                          refine Zag.each_end rfl rfl (by kernel_rfl) (fun K hK => ?_) ?_
                          · skip
                            refine wp_lab_store R7 rfl rfl rfl ?_
                            intro v6 T7 g7 z7
                            have R6 := R6.grown g7 (by omega)
                            have R7 := T7
                            have hdr := below_row hdr g7 hdr.size (by omega)
                            clear T7 g7
                            refine hK _ _ ?_
                            clear hK K
                            refine Zag.zag_nil ?_
                            go_wp2_with fail
                            go_meet
                            exact ⟨_, _, rfl, rfl, R6, R7, hdr⟩
                          exact Zag.each_nil
                      exact Zag.each_nil
                  exact Zag.each_nil
              exact Zag.each_nil
          refine Zag.each_do rfl rfl (fun K hK => ?_) ?_
          · skip
            refine wp_rw_alloc (P := Try.prog) (t := 63) (lv 0 0) zeroLab rfl ?_
            intro v2 R6 q2 s6
            have nq2 := q2.size
            have HS := And.intro (cell_later q2 HS.1) (And.intro (cell_later q2 HS.2.1) (And.intro (cell_later q2 HS.2.2.1) (cell_later q2 HS.2.2.2)))
            have hdr := hdr.trans (q2.mono hdr.size)
            clear q2
            refine hK _ _ HS ?_
            clear hK K
            as_aux_lemma =>
              refine Zag.zag_branch [5, 7] rfl ?_
              refine Zag.each_do rfl rfl (fun K hK => ?_) ?_
              · skip
                unfold Oper.wp
                go_simp
                refine (ct2 _).mono ?_
                rintro e v3 ⟨rfl, q3⟩
                have R6 := R6.later q3
                have nq3 := q3.size
                have HS := And.intro (cell_later q3 HS.1) (And.intro (cell_later q3 HS.2.1) (And.intro (cell_later q3 HS.2.2.1) (cell_later q3 HS.2.2.2)))
                have hdr := hdr.trans (q3.mono hdr.size)
                clear q3
                refine hK _ _ HS ?_
                clear hK K
                as_aux_lemma =>
                  refine Zag.zag_branch [7] rfl ?_
                  refine Zag.each_do rfl rfl (fun K hK => ?_) ?_
                  · skip
                    refine wp_rw_alloc (P := Try.prog) (t := 63) (lv 0 0) zeroLab rfl ?_
                    intro v4 R7 q4 s7
                    have R6 := R6.later q4
                    have nq4 := q4.size
                    have HS := And.intro (cell_later q4 HS.1) (And.intro (cell_later q4 HS.2.1) (And.intro (cell_later q4 HS.2.2.1) (cell_later q4 HS.2.2.2)))
                    have hdr := hdr.trans (q4.mono hdr.size)
                    clear q4
                    refine hK _ _ HS ?_
                    clear hK K
                    as_aux_lemma =>
                      refine Zag.zag_branch [8] rfl ?_
                      refine Zag.each_do rfl rfl (fun K hK => ?_) ?_
                      · skip
                        refine wp_lab_store R6 rfl rfl rfl ?_
                        intro v5 T6 g6 z6
                        have R7 := R7.grown g6 (by omega)
                        have R6 := T6
                        have hdr := below_row hdr g6 hdr.size (by omega)
                        have HS := And.intro (cellG HS.1 g6 (by omega)) (And.intro (cellG HS.2.1 g6 (by omega)) (And.intro (cellG HS.2.2.1 g6 (by omega)) (cellG HS.2.2.2 g6 (by omega))))
                        clear T6 g6
                        refine hK _ _ HS ?_
                        clear hK K
                        as_aux_lemma =>
                          refine Zag.zag_branch [9] rfl ?_
                          refine Zag.each_end rfl rfl (by kernel_rfl) (fun K hK => ?_) ?_
                          · skip
                            refine wp_lab_store R7 rfl rfl rfl ?_
                            intro v6 T7 g7 z7
                            have R6 := R6.grown g7 (by omega)
                            have R7 := T7
                            have hdr := below_row hdr g7 hdr.size (by omega)
                            clear T7 g7
                            refine hK _ _ ?_
                            clear hK K
                            refine Zag.zag_nil ?_
                            go_wp2_with fail
                            go_meet
                            exact ⟨_, _, rfl, rfl, R6, R7, hdr⟩
                          exact Zag.each_nil
                      exact Zag.each_nil
                  exact Zag.each_nil
              refine Zag.each_do rfl rfl (fun K hK => ?_) ?_
              · skip
                refine wp_rw_alloc (P := Try.prog) (t := 63) (lv 0 0) zeroLab rfl ?_
                intro v3 R7 q3 s7
                have R6 := R6.later q3
                have nq3 := q3.size
                have HS := And.intro (cell_later q3 HS.1) (And.intro (cell_later q3 HS.2.1) (And.intro (cell_later q3 HS.2.2.1) (cell_later q3 HS.2.2.2)))
                have hdr := hdr.trans (q3.mono hdr.size)
                clear q3
                refine hK _ _ HS ?_
                clear hK K
                as_aux_lemma =>
                  refine Zag.zag_branch [5] rfl ?_
                  refine Zag.each_do rfl rfl (fun K hK => ?_) ?_
                  · skip
                    unfold Oper.wp
                    go_simp
                    refine (ct2 _).mono ?_
                    rintro e v4 ⟨rfl, q4⟩
                    have R6 := R6.later q4
                    have R7 := R7.later q4
                    have nq4 := q4.size
                    have HS := And.intro (cell_later q4 HS.1) (And.intro (cell_later q4 HS.2.1) (And.intro (cell_later q4 HS.2.2.1) (cell_later q4 HS.2.2.2)))
                    have hdr := hdr.trans (q4.mono hdr.size)
                    clear q4
                    refine hK _ _ HS ?_
                    clear hK K
                    as_aux_lemma =>
                      refine Zag.zag_branch [8] rfl ?_
                      refine Zag.each_do rfl rfl (fun K hK => ?_) ?_
                      · skip
                        refine wp_lab_store R6 rfl rfl rfl ?_
                        intro v5 T6 g6 z6
                        have R7 := R7.grown g6 (by omega)
                        have R6 := T6
                        have hdr := below_row hdr g6 hdr.size (by omega)
                        have HS := And.intro (cellG HS.1 g6 (by omega)) (And.intro (cellG HS.2.1 g6 (by omega)) (And.intro (cellG HS.2.2.1 g6 (by omega)) (cellG HS.2.2.2 g6 (by omega))))
                        clear T6 g6
                        refine hK _ _ HS ?_
                        clear hK K
                        as_aux_lemma =>
                          refine Zag.zag_branch [9] rfl ?_
                          refine Zag.each_end rfl rfl (by kernel_rfl) (fun K hK => ?_) ?_
                          · skip
                            refine wp_lab_store R7 rfl rfl rfl ?_
                            intro v6 T7 g7 z7
                            have R6 := R6.grown g7 (by omega)
                            have R7 := T7
                            have hdr := below_row hdr g7 hdr.size (by omega)
                            clear T7 g7
                            refine hK _ _ ?_
                            clear hK K
                            refine Zag.zag_nil ?_
                            go_wp2_with fail
                            go_meet
                            exact ⟨_, _, rfl, rfl, R6, R7, hdr⟩
                          exact Zag.each_nil
                      exact Zag.each_nil
                  exact Zag.each_nil
              exact Zag.each_nil
          refine Zag.each_do rfl rfl (fun K hK => ?_) ?_
          · skip
            refine wp_rw_alloc (P := Try.prog) (t := 63) (lv 0 0) zeroLab rfl ?_
            intro v2 R7 q2 s7
            have nq2 := q2.size
            have HS := And.intro (cell_later q2 HS.1) (And.intro (cell_later q2 HS.2.1) (And.intro (cell_later q2 HS.2.2.1) (cell_later q2 HS.2.2.2)))
            have hdr := hdr.trans (q2.mono hdr.size)
            clear q2
            refine hK _ _ HS ?_
            clear hK K
            as_aux_lemma =>
              refine Zag.zag_branch [5, 6] rfl ?_
              refine Zag.each_do rfl rfl (fun K hK => ?_) ?_
              · skip
                unfold Oper.wp
                go_simp
                refine (ct2 _).mono ?_
                rintro e v3 ⟨rfl, q3⟩
                have R7 := R7.later q3
                have nq3 := q3.size
                have HS := And.intro (cell_later q3 HS.1) (And.intro (cell_later q3 HS.2.1) (And.intro (cell_later q3 HS.2.2.1) (cell_later q3 HS.2.2.2)))
                have hdr := hdr.trans (q3.mono hdr.size)
                clear q3
                refine hK _ _ HS ?_
                clear hK K
                as_aux_lemma =>
                  refine Zag.zag_branch [6] rfl ?_
                  refine Zag.each_do rfl rfl (fun K hK => ?_) ?_
                  · skip
                    refine wp_rw_alloc (P := Try.prog) (t := 63) (lv 0 0) zeroLab rfl ?_
                    intro v4 R6 q4 s6
                    have R7 := R7.later q4
                    have nq4 := q4.size
                    have HS := And.intro (cell_later q4 HS.1) (And.intro (cell_later q4 HS.2.1) (And.intro (cell_later q4 HS.2.2.1) (cell_later q4 HS.2.2.2)))
                    have hdr := hdr.trans (q4.mono hdr.size)
                    clear q4
                    refine hK _ _ HS ?_
                    clear hK K
                    as_aux_lemma =>
                      refine Zag.zag_branch [8] rfl ?_
                      refine Zag.each_do rfl rfl (fun K hK => ?_) ?_
                      · skip
                        refine wp_lab_store R6 rfl rfl rfl ?_
                        intro v5 T6 g6 z6
                        have R7 := R7.grown g6 (by omega)
                        have R6 := T6
                        have hdr := below_row hdr g6 hdr.size (by omega)
                        have HS := And.intro (cellG HS.1 g6 (by omega)) (And.intro (cellG HS.2.1 g6 (by omega)) (And.intro (cellG HS.2.2.1 g6 (by omega)) (cellG HS.2.2.2 g6 (by omega))))
                        clear T6 g6
                        refine hK _ _ HS ?_
                        clear hK K
                        as_aux_lemma =>
                          refine Zag.zag_branch [9] rfl ?_
                          refine Zag.each_end rfl rfl (by kernel_rfl) (fun K hK => ?_) ?_
                          · skip
                            refine wp_lab_store R7 rfl rfl rfl ?_
                            intro v6 T7 g7 z7
                            have R6 := R6.grown g7 (by omega)
                            have R7 := T7
                            have hdr := below_row hdr g7 hdr.size (by omega)
                            clear T7 g7
                            refine hK _ _ ?_
                            clear hK K
                            refine Zag.zag_nil ?_
                            go_wp2_with fail
                            go_meet
                            exact ⟨_, _, rfl, rfl, R6, R7, hdr⟩
                          exact Zag.each_nil
                      exact Zag.each_nil
                  exact Zag.each_nil
              refine Zag.each_do rfl rfl (fun K hK => ?_) ?_
              · skip
                refine wp_rw_alloc (P := Try.prog) (t := 63) (lv 0 0) zeroLab rfl ?_
                intro v3 R6 q3 s6
                have R7 := R7.later q3
                have nq3 := q3.size
                have HS := And.intro (cell_later q3 HS.1) (And.intro (cell_later q3 HS.2.1) (And.intro (cell_later q3 HS.2.2.1) (cell_later q3 HS.2.2.2)))
                have hdr := hdr.trans (q3.mono hdr.size)
                clear q3
                refine hK _ _ HS ?_
                clear hK K
                as_aux_lemma =>
                  refine Zag.zag_branch [5] rfl ?_
                  refine Zag.each_do rfl rfl (fun K hK => ?_) ?_
                  · skip
                    unfold Oper.wp
                    go_simp
                    refine (ct2 _).mono ?_
                    rintro e v4 ⟨rfl, q4⟩
                    have R7 := R7.later q4
                    have R6 := R6.later q4
                    have nq4 := q4.size
                    have HS := And.intro (cell_later q4 HS.1) (And.intro (cell_later q4 HS.2.1) (And.intro (cell_later q4 HS.2.2.1) (cell_later q4 HS.2.2.2)))
                    have hdr := hdr.trans (q4.mono hdr.size)
                    clear q4
                    refine hK _ _ HS ?_
                    clear hK K
                    as_aux_lemma =>
                      refine Zag.zag_branch [8] rfl ?_
                      refine Zag.each_do rfl rfl (fun K hK => ?_) ?_
                      · skip
                        refine wp_lab_store R6 rfl rfl rfl ?_
                        intro v5 T6 g6 z6
                        have R7 := R7.grown g6 (by omega)
                        have R6 := T6
                        have hdr := below_row hdr g6 hdr.size (by omega)
                        have HS := And.intro (cellG HS.1 g6 (by omega)) (And.intro (cellG HS.2.1 g6 (by omega)) (And.intro (cellG HS.2.2.1 g6 (by omega)) (cellG HS.2.2.2 g6 (by omega))))
                        clear T6 g6
                        refine hK _ _ HS ?_
                        clear hK K
                        as_aux_lemma =>
                          refine Zag.zag_branch [9] rfl ?_
                          refine Zag.each_end rfl rfl (by kernel_rfl) (fun K hK => ?_) ?_
                          · skip
                            refine wp_lab_store R7 rfl rfl rfl ?_
                            intro v6 T7 g7 z7
                            have R6 := R6.grown g7 (by omega)
                            have R7 := T7
                            have hdr := below_row hdr g7 hdr.size (by omega)
                            clear T7 g7
                            refine hK _ _ ?_
                            clear hK K
                            refine Zag.zag_nil ?_
                            go_wp2_with fail
                            go_meet
                            exact ⟨_, _, rfl, rfl, R6, R7, hdr⟩
                          exact Zag.each_nil
                      exact Zag.each_nil
                  exact Zag.each_nil
              exact Zag.each_nil
          exact Zag.each_nil
      refine Zag.each_do rfl rfl (fun K hK => ?_) ?_
      · skip
        refine wp_rw_alloc (P := Try.prog) (t := 63) (lv 0 0) zeroLab rfl ?_
        intro v1 R6 q1 s6
        have nq1 := q1.size
        have HS := And.intro (cell_later q1 HS.1) (And.intro (cell_later q1 HS.2.1) (And.intro (cell_later q1 HS.2.2.1) (cell_later q1 HS.2.2.2)))
        have hdr := hdr.trans (q1.mono hdr.size)
        clear q1
        refine hK _ _ HS ?_
        clear hK K
        as_aux_lemma =>
          refine Zag.zag_branch [2, 7] rfl ?_
          refine Zag.each_do rfl rfl (fun K hK => ?_) ?_
          · skip
            unfold Oper.wp
            go_simp
            refine (ct1 _).mono ?_
            rintro e v2 ⟨rfl, q2⟩
            have R6 := R6.later q2
            have nq2 := q2.size
            have HS := And.intro (cell_later q2 HS.1) (And.intro (cell_later q2 HS.2.1) (And.intro (cell_later q2 HS.2.2.1) (cell_later q2 HS.2.2.2)))
            have hdr := hdr.trans (q2.mono hdr.size)
            clear q2
            refine hK _ _ HS ?_
            clear hK K
            as_aux_lemma =>
              refine Zag.zag_branch [5, 7] rfl ?_
              refine Zag.each_do rfl rfl (fun K hK => ?_) ?_
              · skip
                unfold Oper.wp
                go_simp
                refine (ct2 _).mono ?_
                rintro e v3 ⟨rfl, q3⟩
                have R6 := R6.later q3
                have nq3 := q3.size
                have HS := And.intro (cell_later q3 HS.1) (And.intro (cell_later q3 HS.2.1) (And.intro (cell_later q3 HS.2.2.1) (cell_later q3 HS.2.2.2)))
                have hdr := hdr.trans (q3.mono hdr.size)
                clear q3
                refine hK _ _ HS ?_
                clear hK K
                as_aux_lemma =>
                  refine Zag.zag_branch [7] rfl ?_
                  refine Zag.each_do rfl rfl (fun K hK => ?_) ?_
                  · skip
                    refine wp_rw_alloc (P := Try.prog) (t := 63) (lv 0 0) zeroLab rfl ?_
                    intro v4 R7 q4 s7
                    have R6 := R6.later q4
                    have nq4 := q4.size
                    have HS := And.intro (cell_later q4 HS.1) (And.intro (cell_later q4 HS.2.1) (And.intro (cell_later q4 HS.2.2.1) (cell_later q4 HS.2.2.2)))
                    have hdr := hdr.trans (q4.mono hdr.size)
                    clear q4
                    refine hK _ _ HS ?_
                    clear hK K
                    as_aux_lemma =>
                      refine Zag.zag_branch [8] rfl ?_
                      refine Zag.each_do rfl rfl (fun K hK => ?_) ?_
                      · skip
                        refine wp_lab_store R6 rfl rfl rfl ?_
                        intro v5 T6 g6 z6
                        have R7 := R7.grown g6 (by omega)
                        have R6 := T6
                        have hdr := below_row hdr g6 hdr.size (by omega)
                        have HS := And.intro (cellG HS.1 g6 (by omega)) (And.intro (cellG HS.2.1 g6 (by omega)) (And.intro (cellG HS.2.2.1 g6 (by omega)) (cellG HS.2.2.2 g6 (by omega))))
                        clear T6 g6
                        refine hK _ _ HS ?_
                        clear hK K
                        as_aux_lemma =>
                          refine Zag.zag_branch [9] rfl ?_
                          refine Zag.each_end rfl rfl (by kernel_rfl) (fun K hK => ?_) ?_
                          · skip
                            refine wp_lab_store R7 rfl rfl rfl ?_
                            intro v6 T7 g7 z7
                            have R6 := R6.grown g7 (by omega)
                            have R7 := T7
                            have hdr := below_row hdr g7 hdr.size (by omega)
                            clear T7 g7
                            refine hK _ _ ?_
                            clear hK K
                            refine Zag.zag_nil ?_
                            go_wp2_with fail
                            go_meet
                            exact ⟨_, _, rfl, rfl, R6, R7, hdr⟩
                          exact Zag.each_nil
                      exact Zag.each_nil
                  exact Zag.each_nil
              refine Zag.each_do rfl rfl (fun K hK => ?_) ?_
              · skip
                refine wp_rw_alloc (P := Try.prog) (t := 63) (lv 0 0) zeroLab rfl ?_
                intro v3 R7 q3 s7
                have R6 := R6.later q3
                have nq3 := q3.size
                have HS := And.intro (cell_later q3 HS.1) (And.intro (cell_later q3 HS.2.1) (And.intro (cell_later q3 HS.2.2.1) (cell_later q3 HS.2.2.2)))
                have hdr := hdr.trans (q3.mono hdr.size)
                clear q3
                refine hK _ _ HS ?_
                clear hK K
                as_aux_lemma =>
                  refine Zag.zag_branch [5] rfl ?_
                  refine Zag.each_do rfl rfl (fun K hK => ?_) ?_
                  · skip
                    unfold Oper.wp
                    go_simp
                    refine (ct2 _).mono ?_
                    rintro e v4 ⟨rfl, q4⟩
                    have R6 := R6.later q4
                    have R7 := R7.later q4
                    have nq4 := q4.size
                    have HS := And.intro (cell_later q4 HS.1) (And.intro (cell_later q4 HS.2.1) (And.intro (cell_later q4 HS.2.2.1) (cell_later q4 HS.2.2.2)))
                    have hdr := hdr.trans (q4.mono hdr.size)
                    clear q4
                    refine hK _ _ HS ?_
                    clear hK K
                    as_aux_lemma =>
                      refine Zag.zag_branch [8] rfl ?_
                      refine Zag.each_do rfl rfl (fun K hK => ?_) ?_
                      · skip
                        refine wp_lab_store R6 rfl rfl rfl ?_
                        intro v5 T6 g6 z6
                        have R7 := R7.grown g6 (by omega)
                        have R6 := T6
                        have hdr := below_row hdr g6 hdr.size (by omega)
                        have HS := And.intro (cellG HS.1 g6 (by omega)) (And.intro (cellG HS.2.1 g6 (by omega)) (And.intro (cellG HS.2.2.1 g6 (by omega)) (cellG HS.2.2.2 g6 (by omega))))
                        clear T6 g6
                        refine hK _ _ HS ?_
                        clear hK K
                        as_aux_lemma =>
                          refine Zag.zag_branch [9] rfl ?_
                          refine Zag.each_end rfl rfl (by kernel_rfl) (fun K hK => ?_) ?_
                          · skip
                            refine wp_lab_store R7 rfl rfl rfl ?_
                            intro v6 T7 g7 z7
                            have R6 := R6.grown g7 (by omega)
                            have R7 := T7
                            have hdr := below_row hdr g7 hdr.size (by omega)
                            clear T7 g7
                            refine hK _ _ ?_
                            clear hK K
                            refine Zag.zag_nil ?_
                            go_wp2_with fail
                            go_meet
                            exact ⟨_, _, rfl, rfl, R6, R7, hdr⟩
                          exact Zag.each_nil
                      exact Zag.each_nil
                  exact Zag.each_nil
              exact Zag.each_nil
          refine Zag.each_do rfl rfl (fun K hK => ?_) ?_
          · skip
            refine wp_rw_alloc (P := Try.prog) (t := 63) (lv 0 0) zeroLab rfl ?_
            intro v2 R7 q2 s7
            have R6 := R6.later q2
            have nq2 := q2.size
            have HS := And.intro (cell_later q2 HS.1) (And.intro (cell_later q2 HS.2.1) (And.intro (cell_later q2 HS.2.2.1) (cell_later q2 HS.2.2.2)))
            have hdr := hdr.trans (q2.mono hdr.size)
            clear q2
            refine hK _ _ HS ?_
            clear hK K
            as_aux_lemma =>
              refine Zag.zag_branch [2] rfl ?_
              refine Zag.each_do rfl rfl (fun K hK => ?_) ?_
              · skip
                unfold Oper.wp
                go_simp
                refine (ct1 _).mono ?_
                rintro e v3 ⟨rfl, q3⟩
                have R6 := R6.later q3
                have R7 := R7.later q3
                have nq3 := q3.size
                have HS := And.intro (cell_later q3 HS.1) (And.intro (cell_later q3 HS.2.1) (And.intro (cell_later q3 HS.2.2.1) (cell_later q3 HS.2.2.2)))
                have hdr := hdr.trans (q3.mono hdr.size)
                clear q3
                refine hK _ _ HS ?_
                clear hK K
                as_aux_lemma =>
                  refine Zag.zag_branch [5] rfl ?_
                  refine Zag.each_do rfl rfl (fun K hK => ?_) ?_
                  · skip
                    unfold Oper.wp
                    go_simp
                    refine (ct2 _).mono ?_
                    rintro e v4 ⟨rfl, q4⟩
                    have R6 := R6.later q4
                    have R7 := R7.later q4
                    have nq4 := q4.size
                    have HS := And.intro (cell_later q4 HS.1) (And.intro (cell_later q4 HS.2.1) (And.intro (cell_later q4 HS.2.2.1) (cell_later q4 HS.2.2.2)))
                    have hdr := hdr.trans (q4.mono hdr.size)
                    clear q4
                    refine hK _ _ HS ?_
                    clear hK K
                    as_aux_lemma =>
                      refine Zag.zag_branch [8] rfl ?_
                      refine Zag.each_do rfl rfl (fun K hK => ?_) ?_
                      · skip
                        refine wp_lab_store R6 rfl rfl rfl ?_
                        intro v5 T6 g6 z6
                        have R7 := R7.grown g6 (by omega)
                        have R6 := T6
                        have hdr := below_row hdr g6 hdr.size (by omega)
                        have HS := And.intro (cellG HS.1 g6 (by omega)) (And.intro (cellG HS.2.1 g6 (by omega)) (And.intro (cellG HS.2.2.1 g6 (by omega)) (cellG HS.2.2.2 g6 (by omega))))
                        clear T6 g6
                        refine hK _ _ HS ?_
                        clear hK K
                        as_aux_lemma =>
                          refine Zag.zag_branch [9] rfl ?_
                          refine Zag.each_end rfl rfl (by kernel_rfl) (fun K hK => ?_) ?_
                          · skip
                            refine wp_lab_store R7 rfl rfl rfl ?_
                            intro v6 T7 g7 z7
                            have R6 := R6.grown g7 (by omega)
                            have R7 := T7
                            have hdr := below_row hdr g7 hdr.size (by omega)
                            clear T7 g7
                            refine hK _ _ ?_
                            clear hK K
                            refine Zag.zag_nil ?_
                            go_wp2_with fail
                            go_meet
                            exact ⟨_, _, rfl, rfl, R6, R7, hdr⟩
                          exact Zag.each_nil
                      exact Zag.each_nil
                  exact Zag.each_nil
              exact Zag.each_nil
          exact Zag.each_nil
      refine Zag.each_do rfl rfl (fun K hK => ?_) ?_
      · skip
        refine wp_rw_alloc (P := Try.prog) (t := 63) (lv 0 0) zeroLab rfl ?_
        intro v1 R7 q1 s7
        have nq1 := q1.size
        have HS := And.intro (cell_later q1 HS.1) (And.intro (cell_later q1 HS.2.1) (And.intro (cell_later q1 HS.2.2.1) (cell_later q1 HS.2.2.2)))
        have hdr := hdr.trans (q1.mono hdr.size)
        clear q1
        refine hK _ _ HS ?_
        clear hK K
        as_aux_lemma =>
          refine Zag.zag_branch [2, 6] rfl ?_
          refine Zag.each_do rfl rfl (fun K hK => ?_) ?_
          · skip
            unfold Oper.wp
            go_simp
            refine (ct1 _).mono ?_
            rintro e v2 ⟨rfl, q2⟩
            have R7 := R7.later q2
            have nq2 := q2.size
            have HS := And.intro (cell_later q2 HS.1) (And.intro (cell_later q2 HS.2.1) (And.intro (cell_later q2 HS.2.2.1) (cell_later q2 HS.2.2.2)))
            have hdr := hdr.trans (q2.mono hdr.size)
            clear q2
            refine hK _ _ HS ?_
            clear hK K
            as_aux_lemma =>
              refine Zag.zag_branch [5, 6] rfl ?_
              refine Zag.each_do rfl rfl (fun K hK => ?_) ?_
              · skip
                unfold Oper.wp
                go_simp
                refine (ct2 _).mono ?_
                rintro e v3 ⟨rfl, q3⟩
                have R7 := R7.later q3
                have nq3 := q3.size
                have HS := And.intro (cell_later q3 HS.1) (And.intro (cell_later q3 HS.2.1) (And.intro (cell_later q3 HS.2.2.1) (cell_later q3 HS.2.2.2)))
                have hdr := hdr.trans (q3.mono hdr.size)
                clear q3
                refine hK _ _ HS ?_
                clear hK K
                as_aux_lemma =>
                  refine Zag.zag_branch [6] rfl ?_
                  refine Zag.each_do rfl rfl (fun K hK => ?_) ?_
                  · skip
                    refine wp_rw_alloc (P := Try.prog) (t := 63) (lv 0 0) zeroLab rfl ?_
                    intro v4 R6 q4 s6
                    have R7 := R7.later q4
                    have nq4 := q4.size
                    have HS := And.intro (cell_later q4 HS.1) (And.intro (cell_later q4 HS.2.1) (And.intro (cell_later q4 HS.2.2.1) (cell_later q4 HS.2.2.2)))
                    have hdr := hdr.trans (q4.mono hdr.size)
                    clear q4
                    refine hK _ _ HS ?_
                    clear hK K
                    as_aux_lemma =>
                      refine Zag.zag_branch [8] rfl ?_
                      refine Zag.each_do rfl rfl (fun K hK => ?_) ?_
                      · skip
                        refine wp_lab_store R6 rfl rfl rfl ?_
                        intro v5 T6 g6 z6
                        have R7 := R7.grown g6 (by omega)
                        have R6 := T6
                        have hdr := below_row hdr g6 hdr.size (by omega)
                        have HS := And.intro (cellG HS.1 g6 (by omega)) (And.intro (cellG HS.2.1 g6 (by omega)) (And.intro (cellG HS.2.2.1 g6 (by omega)) (cellG HS.2.2.2 g6 (by omega))))
                        clear T6 g6
                        refine hK _ _ HS ?_
                        clear hK K
                        as_aux_lemma =>
                          refine Zag.zag_branch [9] rfl ?_
                          refine Zag.each_end rfl rfl (by kernel_rfl) (fun K hK => ?_) ?_
                          · skip
                            refine wp_lab_store R7 rfl rfl rfl ?_
                            intro v6 T7 g7 z7
                            have R6 := R6.grown g7 (by omega)
                            have R7 := T7
                            have hdr := below_row hdr g7 hdr.size (by omega)
                            clear T7 g7
                            refine hK _ _ ?_
                            clear hK K
                            refine Zag.zag_nil ?_
                            go_wp2_with fail
                            go_meet
                            exact ⟨_, _, rfl, rfl, R6, R7, hdr⟩
                          exact Zag.each_nil
                      exact Zag.each_nil
                  exact Zag.each_nil
              refine Zag.each_do rfl rfl (fun K hK => ?_) ?_
              · skip
                refine wp_rw_alloc (P := Try.prog) (t := 63) (lv 0 0) zeroLab rfl ?_
                intro v3 R6 q3 s6
                have R7 := R7.later q3
                have nq3 := q3.size
                have HS := And.intro (cell_later q3 HS.1) (And.intro (cell_later q3 HS.2.1) (And.intro (cell_later q3 HS.2.2.1) (cell_later q3 HS.2.2.2)))
                have hdr := hdr.trans (q3.mono hdr.size)
                clear q3
                refine hK _ _ HS ?_
                clear hK K
                as_aux_lemma =>
                  refine Zag.zag_branch [5] rfl ?_
                  refine Zag.each_do rfl rfl (fun K hK => ?_) ?_
                  · skip
                    unfold Oper.wp
                    go_simp
                    refine (ct2 _).mono ?_
                    rintro e v4 ⟨rfl, q4⟩
                    have R7 := R7.later q4
                    have R6 := R6.later q4
                    have nq4 := q4.size
                    have HS := And.intro (cell_later q4 HS.1) (And.intro (cell_later q4 HS.2.1) (And.intro (cell_later q4 HS.2.2.1) (cell_later q4 HS.2.2.2)))
                    have hdr := hdr.trans (q4.mono hdr.size)
                    clear q4
                    refine hK _ _ HS ?_
                    clear hK K
                    as_aux_lemma =>
                      refine Zag.zag_branch [8] rfl ?_
                      refine Zag.each_do rfl rfl (fun K hK => ?_) ?_
                      · skip
                        refine wp_lab_store R6 rfl rfl rfl ?_
                        intro v5 T6 g6 z6
                        have R7 := R7.grown g6 (by omega)
                        have R6 := T6
                        have hdr := below_row hdr g6 hdr.size (by omega)
                        have HS := And.intro (cellG HS.1 g6 (by omega)) (And.intro (cellG HS.2.1 g6 (by omega)) (And.intro (cellG HS.2.2.1 g6 (by omega)) (cellG HS.2.2.2 g6 (by omega))))
                        clear T6 g6
                        refine hK _ _ HS ?_
                        clear hK K
                        as_aux_lemma =>
                          refine Zag.zag_branch [9] rfl ?_
                          refine Zag.each_end rfl rfl (by kernel_rfl) (fun K hK => ?_) ?_
                          · skip
                            refine wp_lab_store R7 rfl rfl rfl ?_
                            intro v6 T7 g7 z7
                            have R6 := R6.grown g7 (by omega)
                            have R7 := T7
                            have hdr := below_row hdr g7 hdr.size (by omega)
                            clear T7 g7
                            refine hK _ _ ?_
                            clear hK K
                            refine Zag.zag_nil ?_
                            go_wp2_with fail
                            go_meet
                            exact ⟨_, _, rfl, rfl, R6, R7, hdr⟩
                          exact Zag.each_nil
                      exact Zag.each_nil
                  exact Zag.each_nil
              exact Zag.each_nil
          refine Zag.each_do rfl rfl (fun K hK => ?_) ?_
          · skip
            refine wp_rw_alloc (P := Try.prog) (t := 63) (lv 0 0) zeroLab rfl ?_
            intro v2 R6 q2 s6
            have R7 := R7.later q2
            have nq2 := q2.size
            have HS := And.intro (cell_later q2 HS.1) (And.intro (cell_later q2 HS.2.1) (And.intro (cell_later q2 HS.2.2.1) (cell_later q2 HS.2.2.2)))
            have hdr := hdr.trans (q2.mono hdr.size)
            clear q2
            refine hK _ _ HS ?_
            clear hK K
            as_aux_lemma =>
              refine Zag.zag_branch [2] rfl ?_
              refine Zag.each_do rfl rfl (fun K hK => ?_) ?_
              · skip
                unfold Oper.wp
                go_simp
                refine (ct1 _).mono ?_
                rintro e v3 ⟨rfl, q3⟩
                have R7 := R7.later q3
                have R6 := R6.later q3
                have nq3 := q3.size
                have HS := And.intro (cell_later q3 HS.1) (And.intro (cell_later q3 HS.2.1) (And.intro (cell_later q3 HS.2.2.1) (cell_later q3 HS.2.2.2)))
                have hdr := hdr.trans (q3.mono hdr.size)
                clear q3
                refine hK _ _ HS ?_
                clear hK K
                as_aux_lemma =>
                  refine Zag.zag_branch [5] rfl ?_
                  refine Zag.each_do rfl rfl (fun K hK => ?_) ?_
                  · skip
                    unfold Oper.wp
                    go_simp
                    refine (ct2 _).mono ?_
                    rintro e v4 ⟨rfl, q4⟩
                    have R7 := R7.later q4
                    have R6 := R6.later q4
                    have nq4 := q4.size
                    have HS := And.intro (cell_later q4 HS.1) (And.intro (cell_later q4 HS.2.1) (And.intro (cell_later q4 HS.2.2.1) (cell_later q4 HS.2.2.2)))
                    have hdr := hdr.trans (q4.mono hdr.size)
                    clear q4
                    refine hK _ _ HS ?_
                    clear hK K
                    as_aux_lemma =>
                      refine Zag.zag_branch [8] rfl ?_
                      refine Zag.each_do rfl rfl (fun K hK => ?_) ?_
                      · skip
                        refine wp_lab_store R6 rfl rfl rfl ?_
                        intro v5 T6 g6 z6
                        have R7 := R7.grown g6 (by omega)
                        have R6 := T6
                        have hdr := below_row hdr g6 hdr.size (by omega)
                        have HS := And.intro (cellG HS.1 g6 (by omega)) (And.intro (cellG HS.2.1 g6 (by omega)) (And.intro (cellG HS.2.2.1 g6 (by omega)) (cellG HS.2.2.2 g6 (by omega))))
                        clear T6 g6
                        refine hK _ _ HS ?_
                        clear hK K
                        as_aux_lemma =>
                          refine Zag.zag_branch [9] rfl ?_
                          refine Zag.each_end rfl rfl (by kernel_rfl) (fun K hK => ?_) ?_
                          · skip
                            refine wp_lab_store R7 rfl rfl rfl ?_
                            intro v6 T7 g7 z7
                            have R6 := R6.grown g7 (by omega)
                            have R7 := T7
                            have hdr := below_row hdr g7 hdr.size (by omega)
                            clear T7 g7
                            refine hK _ _ ?_
                            clear hK K
                            refine Zag.zag_nil ?_
                            go_wp2_with fail
                            go_meet
                            exact ⟨_, _, rfl, rfl, R6, R7, hdr⟩
                          exact Zag.each_nil
                      exact Zag.each_nil
                  exact Zag.each_nil
              exact Zag.each_nil
          exact Zag.each_nil
      exact Zag.each_nil
  case rest =>
    as_aux_lemma =>
      obtain ⟨gj, gm, rfl, rfl, J', M', hb⟩ := hcut
      clear hdr HS
      have A := A.later hb
      have B := B.later hb
      have C := C.later hb
      have W := W.trans (hb.mono W.size)
      have nhb := hb.size
      clear hb
      go_upto_region 5 with fail
      go_cut [60] (fun s wx => s = .bool false ∧ Below wc.heap.size wc wx)
      case first =>
        cases p1
        · skip
          as_aux_lemma =>
            clear W
            have cA0 := A.at_ 0 (.int .i64 (a.1 : Int)) rfl
            have cA1 := A.at_ 1 (.int .i64 (a.2 : Int)) rfl
            have cB0 := B.at_ 0 (.int .i64 (b.1 : Int)) rfl
            have cB1 := B.at_ 1 (.int .i64 (b.2 : Int)) rfl
            have cC0 := C.at_ 0 (.int .i64 (c.1 : Int)) rfl
            have cC1 := C.at_ 1 (.int .i64 (c.2 : Int)) rfl
            refine wp_region_text 35 (by kernel_rfl) ?_
            simp only [List.take_succ_cons, List.take_zero]
            repeat (first
              | (refine wpR_step0 ?_ ?_ (fun K hK => ?_); rfl; rfl; go_simp; refine hK _ ?_; clear hK K)
              | (refine wpR_step0 ?_ ?_ (fun K hK => ?_); rfl; rfl; go_simp; apply Exists.intro; refine ⟨fun x => ?_, hK _ ?_⟩; (first | (go_at_call 38; first | (with_reducible exact ct6 _) | (with_reducible exact ct7 _) | (with_reducible exact ct8 _) | (with_reducible exact ct9 _) | (with_reducible exact ct14 _))); clear hK K))
            refine wpR_nil fun x => ?_
            obtain ⟨w12, w12b⟩ := x
            simp only [close, List.drop_succ_cons, List.drop_zero]
            clear cA0 cA1 cB0 cB1 cC0 cC1
            have A := A.later w12b
            have B := B.later w12b
            have C := C.later w12b
            have J' := J'.later w12b
            have M' := M'.later w12b
            have W := w12b
            have nw12b := w12b.size
            clear w12b
            go_wp2_with fail
            go_meet
            exact ⟨rfl, W⟩
        · cases p3
          · skip
            cases p2
            · skip
              as_aux_lemma =>
                clear W
                have cA0 := A.at_ 0 (.int .i64 (a.1 : Int)) rfl
                have cA1 := A.at_ 1 (.int .i64 (a.2 : Int)) rfl
                have cB0 := B.at_ 0 (.int .i64 (b.1 : Int)) rfl
                have cB1 := B.at_ 1 (.int .i64 (b.2 : Int)) rfl
                have cC0 := C.at_ 0 (.int .i64 (c.1 : Int)) rfl
                have cC1 := C.at_ 1 (.int .i64 (c.2 : Int)) rfl
                refine wp_region_text 35 (by kernel_rfl) ?_
                simp only [List.take_succ_cons, List.take_zero]
                repeat (first
                  | (refine wpR_step0 ?_ ?_ (fun K hK => ?_); rfl; rfl; go_simp; refine hK _ ?_; clear hK K)
                  | (refine wpR_step0 ?_ ?_ (fun K hK => ?_); rfl; rfl; go_simp; apply Exists.intro; refine ⟨fun x => ?_, hK _ ?_⟩; (first | (go_at_call 38; first | (with_reducible exact ct6 _) | (with_reducible exact ct7 _) | (with_reducible exact ct8 _) | (with_reducible exact ct9 _) | (with_reducible exact ct14 _))); clear hK K))
                refine wpR_nil fun x => ?_
                obtain ⟨w12, w12b⟩ := x
                simp only [close, List.drop_succ_cons, List.drop_zero]
                clear cA0 cA1 cB0 cB1 cC0 cC1
                have A := A.later w12b
                have B := B.later w12b
                have C := C.later w12b
                have J' := J'.later w12b
                have M' := M'.later w12b
                have W := w12b
                have nw12b := w12b.size
                clear w12b
                go_wp2_with fail
                go_meet
                exact ⟨rfl, W⟩
            · obtain rfl := x5 rfl rfl
              as_aux_lemma =>
                clear W
                have cA0 := A.at_ 0 (.int .i64 (a.1 : Int)) rfl
                have cA1 := A.at_ 1 (.int .i64 (a.2 : Int)) rfl
                have cB0 := B.at_ 0 (.int .i64 (b.1 : Int)) rfl
                have cB1 := B.at_ 1 (.int .i64 (b.2 : Int)) rfl
                have cC0 := C.at_ 0 (.int .i64 (c.1 : Int)) rfl
                have cC1 := C.at_ 1 (.int .i64 (c.2 : Int)) rfl
                refine wp_region_text 35 (by kernel_rfl) ?_
                simp only [List.take_succ_cons, List.take_zero]
                repeat (first
                  | (refine wpR_step0 ?_ ?_ (fun K hK => ?_); rfl; rfl; go_simp; refine hK _ ?_; clear hK K)
                  | (refine wpR_step0 ?_ ?_ (fun K hK => ?_); rfl; rfl; go_simp; apply Exists.intro; refine ⟨fun x => ?_, hK _ ?_⟩; (first | (go_at_call 38; first | (with_reducible exact ct6 _) | (with_reducible exact ct7 _) | (with_reducible exact ct8 _) | (with_reducible exact ct9 _) | (with_reducible exact ct14 _))); clear hK K))
                refine wpR_nil fun x => ?_
                obtain ⟨w12, w12b⟩ := x
                simp only [close, List.drop_succ_cons, List.drop_zero]
                clear cA0 cA1 cB0 cB1 cC0 cC1
                have A := A.later w12b
                have B := B.later w12b
                have C := C.later w12b
                have J' := J'.later w12b
                have M' := M'.later w12b
                have W := w12b
                have nw12b := w12b.size
                clear w12b
                go_wp2_with fail
                go_meet
                exact ⟨rfl, W⟩
          · obtain rfl := x2 rfl rfl
            cases p2
            · skip
              as_aux_lemma =>
                clear W
                have cA0 := A.at_ 0 (.int .i64 (a.1 : Int)) rfl
                have cA1 := A.at_ 1 (.int .i64 (a.2 : Int)) rfl
                have cB0 := B.at_ 0 (.int .i64 (b.1 : Int)) rfl
                have cB1 := B.at_ 1 (.int .i64 (b.2 : Int)) rfl
                have cC0 := C.at_ 0 (.int .i64 (c.1 : Int)) rfl
                have cC1 := C.at_ 1 (.int .i64 (c.2 : Int)) rfl
                refine wp_region_text 35 (by kernel_rfl) ?_
                simp only [List.take_succ_cons, List.take_zero]
                repeat (first
                  | (refine wpR_step0 ?_ ?_ (fun K hK => ?_); rfl; rfl; go_simp; refine hK _ ?_; clear hK K)
                  | (refine wpR_step0 ?_ ?_ (fun K hK => ?_); rfl; rfl; go_simp; apply Exists.intro; refine ⟨fun x => ?_, hK _ ?_⟩; (first | (go_at_call 38; first | (with_reducible exact ct6 _) | (with_reducible exact ct7 _) | (with_reducible exact ct8 _) | (with_reducible exact ct9 _) | (with_reducible exact ct14 _))); clear hK K))
                refine wpR_nil fun x => ?_
                obtain ⟨w12, w12b⟩ := x
                simp only [close, List.drop_succ_cons, List.drop_zero]
                clear cA0 cA1 cB0 cB1 cC0 cC1
                have A := A.later w12b
                have B := B.later w12b
                have C := C.later w12b
                have J' := J'.later w12b
                have M' := M'.later w12b
                have W := w12b
                have nw12b := w12b.size
                clear w12b
                go_wp2_with fail
                go_meet
                exact ⟨rfl, W⟩
            · obtain rfl := x5 rfl rfl
              as_aux_lemma =>
                clear W
                have cA0 := A.at_ 0 (.int .i64 (a.1 : Int)) rfl
                have cA1 := A.at_ 1 (.int .i64 (a.2 : Int)) rfl
                have cB0 := B.at_ 0 (.int .i64 (b.1 : Int)) rfl
                have cB1 := B.at_ 1 (.int .i64 (b.2 : Int)) rfl
                have cC0 := C.at_ 0 (.int .i64 (c.1 : Int)) rfl
                have cC1 := C.at_ 1 (.int .i64 (c.2 : Int)) rfl
                refine wp_region_text 35 (by kernel_rfl) ?_
                simp only [List.take_succ_cons, List.take_zero]
                repeat (first
                  | (refine wpR_step0 ?_ ?_ (fun K hK => ?_); rfl; rfl; go_simp; refine hK _ ?_; clear hK K)
                  | (refine wpR_step0 ?_ ?_ (fun K hK => ?_); rfl; rfl; go_simp; apply Exists.intro; refine ⟨fun x => ?_, hK _ ?_⟩; (first | (go_at_call 38; first | (with_reducible exact ct6 _) | (with_reducible exact ct7 _) | (with_reducible exact ct8 _) | (with_reducible exact ct9 _) | (with_reducible exact ct14 _))); clear hK K))
                refine wpR_nil fun x => ?_
                obtain ⟨w12, w12b⟩ := x
                simp only [close, List.drop_succ_cons, List.drop_zero]
                clear cA0 cA1 cB0 cB1 cC0 cC1
                have A := A.later w12b
                have B := B.later w12b
                have C := C.later w12b
                have J' := J'.later w12b
                have M' := M'.later w12b
                have W := w12b
                have nw12b := w12b.size
                clear w12b
                go_wp2_with fail
                go_meet
                exact ⟨rfl, W⟩
      case rest =>
        as_aux_lemma =>
          obtain ⟨rfl, hb⟩ := hcut
          rename World => wc5
          have A := A.later hb
          have B := B.later hb
          have C := C.later hb
          have J' := J'.later hb
          have M' := M'.later hb
          have W := W.trans (hb.mono W.size)
          have nhb := hb.size
          clear hb
          go_upto_region 7 with fail
          go_cut [82] (fun s wx => s = .bool false ∧ Below wc5.heap.size wc5 wx)
          case first =>
            as_aux_lemma =>
              clear W
              have cA0 := A.at_ 0 (.int .i64 (a.1 : Int)) rfl
              have cA1 := A.at_ 1 (.int .i64 (a.2 : Int)) rfl
              have cB0 := B.at_ 0 (.int .i64 (b.1 : Int)) rfl
              have cB1 := B.at_ 1 (.int .i64 (b.2 : Int)) rfl
              have cJ'0 := J'.at_ 0 (Value.int .i64 (J.1 : Int)) rfl
              have cJ'1 := J'.at_ 1 (Value.int .i64 (J.2 : Int)) rfl
              have cM'0 := M'.at_ 0 (Value.int .i64 (M.1 : Int)) rfl
              have cM'1 := M'.at_ 1 (Value.int .i64 (M.2 : Int)) rfl
              refine wp_region_text 22 (by kernel_rfl) ?_
              simp only [List.take_succ_cons, List.take_zero]
              repeat (first
                | (refine wpR_step0 ?_ ?_ (fun K hK => ?_); rfl; rfl; go_simp; refine hK _ ?_; clear hK K)
                | (refine wpR_step0 ?_ ?_ (fun K hK => ?_); rfl; rfl; go_simp; apply Exists.intro; refine ⟨fun x => ?_, hK _ ?_⟩; (first | (go_at_call 38; first | (with_reducible exact ct15 _) | (with_reducible exact ct16 _) | (with_reducible exact ct17 _) | (with_reducible exact ct18 _))); clear hK K))
              refine wpR_nil fun x => ?_
              obtain ⟨w13, w13b⟩ := x
              simp only [close, List.drop_succ_cons, List.drop_zero]
              clear cA0 cA1 cB0 cB1 cJ'0 cJ'1 cM'0 cM'1
              have A := A.later w13b
              have B := B.later w13b
              have C := C.later w13b
              have J' := J'.later w13b
              have M' := M'.later w13b
              have W := w13b
              have nw13b := w13b.size
              clear w13b
              go_wp2_with fail
              go_meet
              exact ⟨rfl, W⟩
          case rest =>
            as_aux_lemma =>
              obtain ⟨rfl, hb⟩ := hcut
              rename World => wc7
              have A := A.later hb
              have B := B.later hb
              have C := C.later hb
              have J' := J'.later hb
              have M' := M'.later hb
              have W := W.trans (hb.mono W.size)
              have nhb := hb.size
              clear hb
              go_upto_region 9 with fail
              go_cut [112] (fun s wx => s = .bool false ∧ Below wc7.heap.size wc7 wx)
              case first =>
                cases p5
                · skip
                  cases p4
                  · skip
                    as_aux_lemma =>
                      clear W
                      have cA0 := A.at_ 0 (.int .i64 (a.1 : Int)) rfl
                      have cA1 := A.at_ 1 (.int .i64 (a.2 : Int)) rfl
                      have cB0 := B.at_ 0 (.int .i64 (b.1 : Int)) rfl
                      have cB1 := B.at_ 1 (.int .i64 (b.2 : Int)) rfl
                      have cC0 := C.at_ 0 (.int .i64 (c.1 : Int)) rfl
                      have cC1 := C.at_ 1 (.int .i64 (c.2 : Int)) rfl
                      have cJ'0 := J'.at_ 0 (Value.int .i64 (J.1 : Int)) rfl
                      have cJ'1 := J'.at_ 1 (Value.int .i64 (J.2 : Int)) rfl
                      have cM'0 := M'.at_ 0 (Value.int .i64 (M.1 : Int)) rfl
                      have cM'1 := M'.at_ 1 (Value.int .i64 (M.2 : Int)) rfl
                      refine wp_region_text 30 (by kernel_rfl) ?_
                      simp only [List.take_succ_cons, List.take_zero]
                      repeat (first
                        | (refine wpR_step0 ?_ ?_ (fun K hK => ?_); rfl; rfl; go_simp; refine hK _ ?_; clear hK K)
                        | (refine wpR_step0 ?_ ?_ (fun K hK => ?_); rfl; rfl; go_simp; apply Exists.intro; refine ⟨fun x => ?_, hK _ ?_⟩; (first | (go_at_call 38; first | (with_reducible exact ct8 _) | (with_reducible exact ct9 _) | (with_reducible exact ct10 _) | (with_reducible exact ct11 _) | (with_reducible exact ct12 _) | (with_reducible exact ct13 _))); clear hK K))
                      refine wpR_nil fun x => ?_
                      obtain ⟨w14, w14b⟩ := x
                      simp only [close, List.drop_succ_cons, List.drop_zero]
                      clear cA0 cA1 cB0 cB1 cC0 cC1 cJ'0 cJ'1 cM'0 cM'1
                      have A := A.later w14b
                      have B := B.later w14b
                      have C := C.later w14b
                      have J' := J'.later w14b
                      have M' := M'.later w14b
                      have W := w14b
                      have nw14b := w14b.size
                      clear w14b
                      go_wp2_with fail
                      go_meet
                      exact ⟨rfl, W⟩
                  · cases p3
                    · skip
                      as_aux_lemma =>
                        clear W
                        have cA0 := A.at_ 0 (.int .i64 (a.1 : Int)) rfl
                        have cA1 := A.at_ 1 (.int .i64 (a.2 : Int)) rfl
                        have cB0 := B.at_ 0 (.int .i64 (b.1 : Int)) rfl
                        have cB1 := B.at_ 1 (.int .i64 (b.2 : Int)) rfl
                        have cC0 := C.at_ 0 (.int .i64 (c.1 : Int)) rfl
                        have cC1 := C.at_ 1 (.int .i64 (c.2 : Int)) rfl
                        have cJ'0 := J'.at_ 0 (Value.int .i64 (J.1 : Int)) rfl
                        have cJ'1 := J'.at_ 1 (Value.int .i64 (J.2 : Int)) rfl
                        have cM'0 := M'.at_ 0 (Value.int .i64 (M.1 : Int)) rfl
                        have cM'1 := M'.at_ 1 (Value.int .i64 (M.2 : Int)) rfl
                        refine wp_region_text 30 (by kernel_rfl) ?_
                        simp only [List.take_succ_cons, List.take_zero]
                        repeat (first
                          | (refine wpR_step0 ?_ ?_ (fun K hK => ?_); rfl; rfl; go_simp; refine hK _ ?_; clear hK K)
                          | (refine wpR_step0 ?_ ?_ (fun K hK => ?_); rfl; rfl; go_simp; apply Exists.intro; refine ⟨fun x => ?_, hK _ ?_⟩; (first | (go_at_call 38; first | (with_reducible exact ct8 _) | (with_reducible exact ct9 _) | (with_reducible exact ct10 _) | (with_reducible exact ct11 _) | (with_reducible exact ct12 _) | (with_reducible exact ct13 _))); clear hK K))
                        refine wpR_nil fun x => ?_
                        obtain ⟨w14, w14b⟩ := x
                        simp only [close, List.drop_succ_cons, List.drop_zero]
                        clear cA0 cA1 cB0 cB1 cC0 cC1 cJ'0 cJ'1 cM'0 cM'1
                        have A := A.later w14b
                        have B := B.later w14b
                        have C := C.later w14b
                        have J' := J'.later w14b
                        have M' := M'.later w14b
                        have W := w14b
                        have nw14b := w14b.size
                        clear w14b
                        go_wp2_with fail
                        go_meet
                        exact ⟨rfl, W⟩
                    · obtain rfl := x4 rfl rfl
                      as_aux_lemma =>
                        clear W
                        have cA0 := A.at_ 0 (.int .i64 (a.1 : Int)) rfl
                        have cA1 := A.at_ 1 (.int .i64 (a.2 : Int)) rfl
                        have cB0 := B.at_ 0 (.int .i64 (b.1 : Int)) rfl
                        have cB1 := B.at_ 1 (.int .i64 (b.2 : Int)) rfl
                        have cC0 := C.at_ 0 (.int .i64 (c.1 : Int)) rfl
                        have cC1 := C.at_ 1 (.int .i64 (c.2 : Int)) rfl
                        have cJ'0 := J'.at_ 0 (Value.int .i64 (J.1 : Int)) rfl
                        have cJ'1 := J'.at_ 1 (Value.int .i64 (J.2 : Int)) rfl
                        have cM'0 := M'.at_ 0 (Value.int .i64 (M.1 : Int)) rfl
                        have cM'1 := M'.at_ 1 (Value.int .i64 (M.2 : Int)) rfl
                        refine wp_region_text 30 (by kernel_rfl) ?_
                        simp only [List.take_succ_cons, List.take_zero]
                        repeat (first
                          | (refine wpR_step0 ?_ ?_ (fun K hK => ?_); rfl; rfl; go_simp; refine hK _ ?_; clear hK K)
                          | (refine wpR_step0 ?_ ?_ (fun K hK => ?_); rfl; rfl; go_simp; apply Exists.intro; refine ⟨fun x => ?_, hK _ ?_⟩; (first | (go_at_call 38; first | (with_reducible exact ct8 _) | (with_reducible exact ct9 _) | (with_reducible exact ct10 _) | (with_reducible exact ct11 _) | (with_reducible exact ct12 _) | (with_reducible exact ct13 _))); clear hK K))
                        refine wpR_nil fun x => ?_
                        obtain ⟨w14, w14b⟩ := x
                        simp only [close, List.drop_succ_cons, List.drop_zero]
                        clear cA0 cA1 cB0 cB1 cC0 cC1 cJ'0 cJ'1 cM'0 cM'1
                        have A := A.later w14b
                        have B := B.later w14b
                        have C := C.later w14b
                        have J' := J'.later w14b
                        have M' := M'.later w14b
                        have W := w14b
                        have nw14b := w14b.size
                        clear w14b
                        go_wp2_with fail
                        go_meet
                        exact ⟨rfl, W⟩
                · cases p6
                  · skip
                    cases p4
                    · skip
                      as_aux_lemma =>
                        clear W
                        have cA0 := A.at_ 0 (.int .i64 (a.1 : Int)) rfl
                        have cA1 := A.at_ 1 (.int .i64 (a.2 : Int)) rfl
                        have cB0 := B.at_ 0 (.int .i64 (b.1 : Int)) rfl
                        have cB1 := B.at_ 1 (.int .i64 (b.2 : Int)) rfl
                        have cC0 := C.at_ 0 (.int .i64 (c.1 : Int)) rfl
                        have cC1 := C.at_ 1 (.int .i64 (c.2 : Int)) rfl
                        have cJ'0 := J'.at_ 0 (Value.int .i64 (J.1 : Int)) rfl
                        have cJ'1 := J'.at_ 1 (Value.int .i64 (J.2 : Int)) rfl
                        have cM'0 := M'.at_ 0 (Value.int .i64 (M.1 : Int)) rfl
                        have cM'1 := M'.at_ 1 (Value.int .i64 (M.2 : Int)) rfl
                        refine wp_region_text 30 (by kernel_rfl) ?_
                        simp only [List.take_succ_cons, List.take_zero]
                        repeat (first
                          | (refine wpR_step0 ?_ ?_ (fun K hK => ?_); rfl; rfl; go_simp; refine hK _ ?_; clear hK K)
                          | (refine wpR_step0 ?_ ?_ (fun K hK => ?_); rfl; rfl; go_simp; apply Exists.intro; refine ⟨fun x => ?_, hK _ ?_⟩; (first | (go_at_call 38; first | (with_reducible exact ct8 _) | (with_reducible exact ct9 _) | (with_reducible exact ct10 _) | (with_reducible exact ct11 _) | (with_reducible exact ct12 _) | (with_reducible exact ct13 _))); clear hK K))
                        refine wpR_nil fun x => ?_
                        obtain ⟨w14, w14b⟩ := x
                        simp only [close, List.drop_succ_cons, List.drop_zero]
                        clear cA0 cA1 cB0 cB1 cC0 cC1 cJ'0 cJ'1 cM'0 cM'1
                        have A := A.later w14b
                        have B := B.later w14b
                        have C := C.later w14b
                        have J' := J'.later w14b
                        have M' := M'.later w14b
                        have W := w14b
                        have nw14b := w14b.size
                        clear w14b
                        go_wp2_with fail
                        go_meet
                        exact ⟨rfl, W⟩
                    · cases p3
                      · skip
                        as_aux_lemma =>
                          clear W
                          have cA0 := A.at_ 0 (.int .i64 (a.1 : Int)) rfl
                          have cA1 := A.at_ 1 (.int .i64 (a.2 : Int)) rfl
                          have cB0 := B.at_ 0 (.int .i64 (b.1 : Int)) rfl
                          have cB1 := B.at_ 1 (.int .i64 (b.2 : Int)) rfl
                          have cC0 := C.at_ 0 (.int .i64 (c.1 : Int)) rfl
                          have cC1 := C.at_ 1 (.int .i64 (c.2 : Int)) rfl
                          have cJ'0 := J'.at_ 0 (Value.int .i64 (J.1 : Int)) rfl
                          have cJ'1 := J'.at_ 1 (Value.int .i64 (J.2 : Int)) rfl
                          have cM'0 := M'.at_ 0 (Value.int .i64 (M.1 : Int)) rfl
                          have cM'1 := M'.at_ 1 (Value.int .i64 (M.2 : Int)) rfl
                          refine wp_region_text 30 (by kernel_rfl) ?_
                          simp only [List.take_succ_cons, List.take_zero]
                          repeat (first
                            | (refine wpR_step0 ?_ ?_ (fun K hK => ?_); rfl; rfl; go_simp; refine hK _ ?_; clear hK K)
                            | (refine wpR_step0 ?_ ?_ (fun K hK => ?_); rfl; rfl; go_simp; apply Exists.intro; refine ⟨fun x => ?_, hK _ ?_⟩; (first | (go_at_call 38; first | (with_reducible exact ct8 _) | (with_reducible exact ct9 _) | (with_reducible exact ct10 _) | (with_reducible exact ct11 _) | (with_reducible exact ct12 _) | (with_reducible exact ct13 _))); clear hK K))
                          refine wpR_nil fun x => ?_
                          obtain ⟨w14, w14b⟩ := x
                          simp only [close, List.drop_succ_cons, List.drop_zero]
                          clear cA0 cA1 cB0 cB1 cC0 cC1 cJ'0 cJ'1 cM'0 cM'1
                          have A := A.later w14b
                          have B := B.later w14b
                          have C := C.later w14b
                          have J' := J'.later w14b
                          have M' := M'.later w14b
                          have W := w14b
                          have nw14b := w14b.size
                          clear w14b
                          go_wp2_with fail
                          go_meet
                          exact ⟨rfl, W⟩
                      · obtain rfl := x4 rfl rfl
                        as_aux_lemma =>
                          clear W
                          have cA0 := A.at_ 0 (.int .i64 (a.1 : Int)) rfl
                          have cA1 := A.at_ 1 (.int .i64 (a.2 : Int)) rfl
                          have cB0 := B.at_ 0 (.int .i64 (b.1 : Int)) rfl
                          have cB1 := B.at_ 1 (.int .i64 (b.2 : Int)) rfl
                          have cC0 := C.at_ 0 (.int .i64 (c.1 : Int)) rfl
                          have cC1 := C.at_ 1 (.int .i64 (c.2 : Int)) rfl
                          have cJ'0 := J'.at_ 0 (Value.int .i64 (J.1 : Int)) rfl
                          have cJ'1 := J'.at_ 1 (Value.int .i64 (J.2 : Int)) rfl
                          have cM'0 := M'.at_ 0 (Value.int .i64 (M.1 : Int)) rfl
                          have cM'1 := M'.at_ 1 (Value.int .i64 (M.2 : Int)) rfl
                          refine wp_region_text 30 (by kernel_rfl) ?_
                          simp only [List.take_succ_cons, List.take_zero]
                          repeat (first
                            | (refine wpR_step0 ?_ ?_ (fun K hK => ?_); rfl; rfl; go_simp; refine hK _ ?_; clear hK K)
                            | (refine wpR_step0 ?_ ?_ (fun K hK => ?_); rfl; rfl; go_simp; apply Exists.intro; refine ⟨fun x => ?_, hK _ ?_⟩; (first | (go_at_call 38; first | (with_reducible exact ct8 _) | (with_reducible exact ct9 _) | (with_reducible exact ct10 _) | (with_reducible exact ct11 _) | (with_reducible exact ct12 _) | (with_reducible exact ct13 _))); clear hK K))
                          refine wpR_nil fun x => ?_
                          obtain ⟨w14, w14b⟩ := x
                          simp only [close, List.drop_succ_cons, List.drop_zero]
                          clear cA0 cA1 cB0 cB1 cC0 cC1 cJ'0 cJ'1 cM'0 cM'1
                          have A := A.later w14b
                          have B := B.later w14b
                          have C := C.later w14b
                          have J' := J'.later w14b
                          have M' := M'.later w14b
                          have W := w14b
                          have nw14b := w14b.size
                          clear w14b
                          go_wp2_with fail
                          go_meet
                          exact ⟨rfl, W⟩
                  · obtain rfl := x3 rfl rfl
                    cases p4
                    · skip
                      as_aux_lemma =>
                        clear W
                        have cA0 := A.at_ 0 (.int .i64 (a.1 : Int)) rfl
                        have cA1 := A.at_ 1 (.int .i64 (a.2 : Int)) rfl
                        have cB0 := B.at_ 0 (.int .i64 (b.1 : Int)) rfl
                        have cB1 := B.at_ 1 (.int .i64 (b.2 : Int)) rfl
                        have cC0 := C.at_ 0 (.int .i64 (c.1 : Int)) rfl
                        have cC1 := C.at_ 1 (.int .i64 (c.2 : Int)) rfl
                        have cJ'0 := J'.at_ 0 (Value.int .i64 (J.1 : Int)) rfl
                        have cJ'1 := J'.at_ 1 (Value.int .i64 (J.2 : Int)) rfl
                        have cM'0 := M'.at_ 0 (Value.int .i64 (M.1 : Int)) rfl
                        have cM'1 := M'.at_ 1 (Value.int .i64 (M.2 : Int)) rfl
                        refine wp_region_text 30 (by kernel_rfl) ?_
                        simp only [List.take_succ_cons, List.take_zero]
                        repeat (first
                          | (refine wpR_step0 ?_ ?_ (fun K hK => ?_); rfl; rfl; go_simp; refine hK _ ?_; clear hK K)
                          | (refine wpR_step0 ?_ ?_ (fun K hK => ?_); rfl; rfl; go_simp; apply Exists.intro; refine ⟨fun x => ?_, hK _ ?_⟩; (first | (go_at_call 38; first | (with_reducible exact ct8 _) | (with_reducible exact ct9 _) | (with_reducible exact ct10 _) | (with_reducible exact ct11 _) | (with_reducible exact ct12 _) | (with_reducible exact ct13 _))); clear hK K))
                        refine wpR_nil fun x => ?_
                        obtain ⟨w14, w14b⟩ := x
                        simp only [close, List.drop_succ_cons, List.drop_zero]
                        clear cA0 cA1 cB0 cB1 cC0 cC1 cJ'0 cJ'1 cM'0 cM'1
                        have A := A.later w14b
                        have B := B.later w14b
                        have C := C.later w14b
                        have J' := J'.later w14b
                        have M' := M'.later w14b
                        have W := w14b
                        have nw14b := w14b.size
                        clear w14b
                        go_wp2_with fail
                        go_meet
                        exact ⟨rfl, W⟩
                    · cases p3
                      · skip
                        as_aux_lemma =>
                          clear W
                          have cA0 := A.at_ 0 (.int .i64 (a.1 : Int)) rfl
                          have cA1 := A.at_ 1 (.int .i64 (a.2 : Int)) rfl
                          have cB0 := B.at_ 0 (.int .i64 (b.1 : Int)) rfl
                          have cB1 := B.at_ 1 (.int .i64 (b.2 : Int)) rfl
                          have cC0 := C.at_ 0 (.int .i64 (c.1 : Int)) rfl
                          have cC1 := C.at_ 1 (.int .i64 (c.2 : Int)) rfl
                          have cJ'0 := J'.at_ 0 (Value.int .i64 (J.1 : Int)) rfl
                          have cJ'1 := J'.at_ 1 (Value.int .i64 (J.2 : Int)) rfl
                          have cM'0 := M'.at_ 0 (Value.int .i64 (M.1 : Int)) rfl
                          have cM'1 := M'.at_ 1 (Value.int .i64 (M.2 : Int)) rfl
                          refine wp_region_text 30 (by kernel_rfl) ?_
                          simp only [List.take_succ_cons, List.take_zero]
                          repeat (first
                            | (refine wpR_step0 ?_ ?_ (fun K hK => ?_); rfl; rfl; go_simp; refine hK _ ?_; clear hK K)
                            | (refine wpR_step0 ?_ ?_ (fun K hK => ?_); rfl; rfl; go_simp; apply Exists.intro; refine ⟨fun x => ?_, hK _ ?_⟩; (first | (go_at_call 38; first | (with_reducible exact ct8 _) | (with_reducible exact ct9 _) | (with_reducible exact ct10 _) | (with_reducible exact ct11 _) | (with_reducible exact ct12 _) | (with_reducible exact ct13 _))); clear hK K))
                          refine wpR_nil fun x => ?_
                          obtain ⟨w14, w14b⟩ := x
                          simp only [close, List.drop_succ_cons, List.drop_zero]
                          clear cA0 cA1 cB0 cB1 cC0 cC1 cJ'0 cJ'1 cM'0 cM'1
                          have A := A.later w14b
                          have B := B.later w14b
                          have C := C.later w14b
                          have J' := J'.later w14b
                          have M' := M'.later w14b
                          have W := w14b
                          have nw14b := w14b.size
                          clear w14b
                          go_wp2_with fail
                          go_meet
                          exact ⟨rfl, W⟩
                      · obtain rfl := x4 rfl rfl
                        as_aux_lemma =>
                          clear W
                          have cA0 := A.at_ 0 (.int .i64 (a.1 : Int)) rfl
                          have cA1 := A.at_ 1 (.int .i64 (a.2 : Int)) rfl
                          have cB0 := B.at_ 0 (.int .i64 (b.1 : Int)) rfl
                          have cB1 := B.at_ 1 (.int .i64 (b.2 : Int)) rfl
                          have cC0 := C.at_ 0 (.int .i64 (c.1 : Int)) rfl
                          have cC1 := C.at_ 1 (.int .i64 (c.2 : Int)) rfl
                          have cJ'0 := J'.at_ 0 (Value.int .i64 (J.1 : Int)) rfl
                          have cJ'1 := J'.at_ 1 (Value.int .i64 (J.2 : Int)) rfl
                          have cM'0 := M'.at_ 0 (Value.int .i64 (M.1 : Int)) rfl
                          have cM'1 := M'.at_ 1 (Value.int .i64 (M.2 : Int)) rfl
                          refine wp_region_text 30 (by kernel_rfl) ?_
                          simp only [List.take_succ_cons, List.take_zero]
                          repeat (first
                            | (refine wpR_step0 ?_ ?_ (fun K hK => ?_); rfl; rfl; go_simp; refine hK _ ?_; clear hK K)
                            | (refine wpR_step0 ?_ ?_ (fun K hK => ?_); rfl; rfl; go_simp; apply Exists.intro; refine ⟨fun x => ?_, hK _ ?_⟩; (first | (go_at_call 38; first | (with_reducible exact ct8 _) | (with_reducible exact ct9 _) | (with_reducible exact ct10 _) | (with_reducible exact ct11 _) | (with_reducible exact ct12 _) | (with_reducible exact ct13 _))); clear hK K))
                          refine wpR_nil fun x => ?_
                          obtain ⟨w14, w14b⟩ := x
                          simp only [close, List.drop_succ_cons, List.drop_zero]
                          clear cA0 cA1 cB0 cB1 cC0 cC1 cJ'0 cJ'1 cM'0 cM'1
                          have A := A.later w14b
                          have B := B.later w14b
                          have C := C.later w14b
                          have J' := J'.later w14b
                          have M' := M'.later w14b
                          have W := w14b
                          have nw14b := w14b.size
                          clear w14b
                          go_wp2_with fail
                          go_meet
                          exact ⟨rfl, W⟩
              case rest =>
                as_aux_lemma =>
                  obtain ⟨rfl, hb⟩ := hcut
                  rename World => wc9
                  have A := A.later hb
                  have B := B.later hb
                  have C := C.later hb
                  have J' := J'.later hb
                  have M' := M'.later hb
                  have W := W.trans (hb.mono W.size)
                  have nhb := hb.size
                  clear hb
                  clear x2 x3 x4 x5
                  go_upto_region 11 with fail
                  cases p1
                  all_goals
                    as_aux_lemma =>
                      have cA0 := A.cell 0 (.int .i64 (a.1 : Int)) rfl
                      have cA1 := A.cell 1 (.int .i64 (a.2 : Int)) rfl
                      have cB0 := B.cell 0 (.int .i64 (b.1 : Int)) rfl
                      have cB1 := B.cell 1 (.int .i64 (b.2 : Int)) rfl
                      have cJ'0 := J'.cell 0 (Value.int .i64 (J.1 : Int)) rfl
                      have cJ'1 := J'.cell 1 (Value.int .i64 (J.2 : Int)) rfl
                      have cM'0 := M'.cell 0 (Value.int .i64 (M.1 : Int)) rfl
                      have cM'1 := M'.cell 1 (Value.int .i64 (M.2 : Int)) rfl
                      go_wp2_with fail
                      clear cA0 cA1 cB0 cB1 cJ'0 cJ'1 cM'0 cM'1
                      have cA0 := A.drew.at_ 0 (.int .i64 (a.1 : Int)) rfl
                      have cA1 := A.drew.at_ 1 (.int .i64 (a.2 : Int)) rfl
                      have cB0 := B.drew.at_ 0 (.int .i64 (b.1 : Int)) rfl
                      have cB1 := B.drew.at_ 1 (.int .i64 (b.2 : Int)) rfl
                      have cJ'0 := J'.drew.at_ 0 (Value.int .i64 (J.1 : Int)) rfl
                      have cJ'1 := J'.drew.at_ 1 (Value.int .i64 (J.2 : Int)) rfl
                      have cM'0 := M'.drew.at_ 0 (Value.int .i64 (M.1 : Int)) rfl
                      have cM'1 := M'.drew.at_ 1 (Value.int .i64 (M.2 : Int)) rfl
                      have W := W.drew
                      have A := A.drew
                      have B := B.drew
                      have C := C.drew
                      have J' := J'.drew
                      have M' := M'.drew
                      refine wp_region_rely 39 (by kernel_rfl) (by kernel_rfl) ?_
                      simp only [List.take_succ_cons, List.take_zero]
                      generalize World.drew wc9 = w14d at *
                      repeat (first
                        | (refine wpR_step0 ?_ ?_ (fun K hK => ?_); rfl; rfl; go_simp; refine hK _ ?_; clear hK K)
                        | (refine wpR_step0 ?_ ?_ (fun K hK => ?_); rfl; rfl; go_simp; apply Exists.intro; refine ⟨fun x => ?_, hK _ ?_⟩; (first | (go_at_call 40; first | (with_reducible exact ct1 _) | (with_reducible exact ct3 _) | (with_reducible exact ct5 _)) | (go_at_call 42; first | (with_reducible exact ct4 _)) | (go_at_call 38; first | (with_reducible exact ct6 _))); clear hK K))
                      refine wpR_nil fun x => ?_
                      obtain ⟨w14, w14b⟩ := x
                      simp only [close, List.drop_succ_cons, List.drop_zero]
                      clear cA0 cA1 cB0 cB1 cJ'0 cJ'1 cM'0 cM'1
                      have A := A.later w14b
                      have B := B.later w14b
                      have C := C.later w14b
                      have J' := J'.later w14b
                      have M' := M'.later w14b
                      have W := W.trans (w14b.mono W.size)
                      have nw14b := w14b.size
                      clear w14b
                      go_wp2_with fail
                      go_ret
                      exact ⟨rfl, W⟩

theorem labLattice_row (n0 n1 n2 : Int) (W : World) (wf0 : (Lit.int .u8 n0).wf = true) (wf1 : (Lit.int .u8 n1).wf = true) (wf2 : (Lit.int .u8 n2).wf = true) : Calls Try.prog 10 #[.int .u8 n0, .int .u8 n1, .int .u8 n2] W fun e w' => e = .returned (.bool true) ∧ Below W.heap.size W w' := by
  obtain ⟨b0, rfl⟩ := wf_u8 wf0
  obtain ⟨b1, rfl⟩ := wf_u8 wf1
  obtain ⟨b2, rfl⟩ := wf_u8 wf2
  exact labLattice_law b0.toNat b1.toNat b2.toNat W b0.toNat_lt b1.toNat_lt b2.toNat_lt
end Go.Proofs.Ytibpipppabommaa.Cl
