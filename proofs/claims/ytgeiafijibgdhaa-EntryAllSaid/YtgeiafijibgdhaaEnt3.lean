/- entry.Put. -/
import Derived.Test.YtgeiafijibgdhaaEnt2
import Derived.Test.YtgeiafijibgdhaaCat
import Derived.Test.YtgeiafijibgdhaaBlkC
import Derived.Test.YtgeiafijibgdhaaConv
set_option linter.unusedVariables false
set_option linter.unusedSimpArgs false
namespace Go.Proofs.Ytgeiafijibgdhaa.Cl
open Go Go.Proofs Go.RowKit Fl Rely

def midB (n : Nm) : List UInt8 := be 2 n.p.toNat ++ be 4 n.g.toNat ++ [UInt8.ofNat n.s.length]
def entB (n : Nm) : List UInt8 := putID n.a n.b n.c ++ midB n ++ n.s
def entK (n : Nm) : Int := if mayNm n then 6 else 0
def entBody (n : Nm) : List UInt8 := if mayNm n then entB n ++ Z56.drop (entB n).length else Z56
theorem midB_length (n : Nm) : (midB n).length = 7 := by simp [midB, be_length]
theorem mayNm_facts {n : Nm} (h : mayNm n = true) : mayID n.a n.b n.c = true ∧ mayName n.s = true ∧ 1 ≤ n.p ∧ n.p < 200 ∧ 1 ≤ n.g := by
  unfold mayNm at h
  simp only [Bool.and_eq_true, decide_eq_true_eq] at h
  exact ⟨h.1.1.1.1, h.1.1.1.2, h.1.1.2, h.1.2, h.2⟩
theorem mayName_len {l : List UInt8} (h : mayName l = true) : 1 ≤ l.length ∧ l.length ≤ 14 := by
  unfold mayName at h
  simp only [Bool.and_eq_true, decide_eq_true_eq] at h
  exact ⟨h.1.1.2, h.1.2⟩
theorem putID_length {a b c : Int} (h : mayID a b c = true) : (putID a b c).length = 7 := by unfold putID; rw [if_pos h]; simp [be_length]
def SlB (m : Nat) (l : List UInt8) (v : Value) (W : World) : Prop := ∃ g c, v = .slice (some ⟨g, 0, none⟩) m c ∧ Rd W v (bs l)
theorem persist_slB (m : Nat) (l : List UInt8) : Persist (SlB m l) := fun v W W' ⟨g, c, h1, h2⟩ hb => ⟨g, c, h1, h2.below hb⟩
def Three (l0 l1 l2 : List UInt8) (v : Value) (W : World) : Prop := ∃ g v0 v1 v2, v = .slice (some ⟨g, 0, none⟩) 3 3 ∧ W.cell? ⟨g, 0, none⟩ = some v0 ∧ W.cell? ⟨g, 1, none⟩ = some v1 ∧ W.cell? ⟨g, 2, none⟩ = some v2 ∧ Rd W v0 (bs l0) ∧ Rd W v1 (bs l1) ∧ Rd W v2 (bs l2)
theorem persist_three (l0 l1 l2 : List UInt8) : Persist (Three l0 l1 l2) := fun v W W' ⟨g, v0, v1, v2, h1, h2, h3, h4, h5, h6, h7⟩ hb => ⟨g, v0, v1, v2, h1, cell_later hb h2, cell_later hb h3, cell_later hb h4, h5.below hb, h6.below hb, h7.below hb⟩
theorem concat3_any (g : Nat) (v0 v1 v2 : Value) (l0 l1 l2 : List UInt8) (w : World) (c0 : w.cell? ⟨g, 0, none⟩ = some v0) (c1 : w.cell? ⟨g, 1, none⟩ = some v1) (c2 : w.cell? ⟨g, 2, none⟩ = some v2) (h0 : Rd w v0 (bs l0)) (h1 : Rd w v1 (bs l1)) (h2 : Rd w v2 (bs l2))
    (hl : 0 < (l0 ++ l1 ++ l2).length) (hl2 : (l0 ++ l1 ++ l2).length ≤ 100000) :
    Calls Try.prog 55 #[.slice (some ⟨g, 0, none⟩) 3 3] w fun e w' => ∃ u, e = .returned u ∧ OB w' w.heap.size u (l0 ++ l1 ++ l2) ∧ Below w.heap.size w w' := by
  have e : [l0, l1, l2].flatten = l0 ++ l1 ++ l2 := by simp
  have := concatN_any g 3 3 [v0, v1, v2] [l0, l1, l2] w rfl rfl (fun j hj => by
    rcases j with _ | _ | _ | j
    · exact c0
    · exact c1
    · exact c2
    · simp at hj; omega) (fun j hj hj' => by
    rcases j with _ | _ | _ | j
    · exact h0
    · exact h1
    · exact h2
    · simp at hj; omega) (by rw [e]; exact hl) (by rw [e]; exact hl2) (by decide)
  rw [e] at this
  exact this
theorem mid_cells {p g k : Nat} (hp : p < 200) (hg : g < 4294967296) (hk : k ≤ 14) :
    #[Value.int .u8 ((p : Int) / 256 % 256), .int .u8 ((p : Int) % 256), .int .u8 ((g : Int) / 16777216 % 256), .int .u8 ((g : Int) / 65536 % 256), .int .u8 ((g : Int) / 256 % 256), .int .u8 ((g : Int) % 256), .int .u8 ((k : Int) % 256)] = (bs (be 2 p ++ be 4 g ++ [UInt8.ofNat k])).toArray := by
  apply Array.ext'
  simp only [be, bs, List.map_append, List.map_cons, List.map_nil, List.cons_append, List.nil_append]
  refine cons_u8 ?_ (cons_u8 ?_ (cons_u8 ?_ (cons_u8 ?_ (cons_u8 ?_ (cons_u8 ?_ (cons_u8 ?_ rfl)))))) <;> (rw [UInt8.toNat_ofNat']; omega)

theorem wp_copy_body {o : Oper} {a : Act} {w : World} {K : Act → World → Prop} {Q : Exit → Act → World → Prop} {d s : Operand} {g : Nat} {k : Int} {b l : List UInt8} {u v : Value} (hB : BlkAt w g k b) (hv : Rd w v (bs l)) (hl : l.length ≤ 56)
    (ho : o.op = .call { callee := .builtin .copy, args := #[d, s], argTypes := #[37, 37] }) (hd : a.eval d = u) (hs : a.eval s = v) (hu : u = .slice (some ⟨g, 1, none⟩) 56 56)
    (h : ∀ n w', BlkAt w' g k (l ++ b.drop l.length) → w.grownBy w' (some g) → w'.heap.size = w.heap.size → K (a.put o.dst (.int .i64 n)) w') : o.wp Try.prog a w K Q := by
  subst hu
  obtain ⟨w', hr, h1, h2, h3⟩ := run_copy_body o.type w hB v l hv hl
  unfold Oper.wp execOp
  simp only [ho, resolve, invoke, builtin, Sem.run_bind, Sem.run_pure, Result.andThen_ok, List.map_toArray, List.map_cons, List.map_nil, hd, hs, hr]
  exact h _ w' h1 h2 h3
theorem infoNm_size : (Try.prog.info? 43).map (·.size) = some 6 := by kernel_rfl
set_option maxRecDepth 100000 in
set_option maxHeartbeats 4000000 in
theorem entPut_any (n : Nm) (w : World) (ok : NmOk n) :
    Calls Try.prog 23 #[nmV n] w fun e w' => e = .returned (.tuple #[blkV (entK n) (entBody n), .bool (mayNm n)]) ∧ Below w.heap.size w w' := by
  have hM := fun w => entMay_any n w ok
  cases hm : mayNm n
  · rw [hm] at hM
    unfold entK entBody
    rw [hm]
    go_enter Try.func23, Try.ntmps23
    go_wp2_with (refine wp_want rfl fun K hK => ?_; refine wp_rw_box (P := Try.prog) (t := 43) (nmA n) rfl rfl ?_)
    intro w1 A1 b1 s1
    refine hK _ _ ?_
    clear hK K
    go_wp2_with (refine wp_want rfl fun K hK => ?_; refine wp_blk_alloc rfl ?_)
    intro w2 B2 b2 s2
    refine hK _ _ ?_
    clear hK K
    have W := b1.trans (b2.mono b1.size)
    have A2 := RowAt.later A1 b2
    go_wp2_with (refine wp_want rfl fun K hK => ?_; refine wp_rw_load (P := Try.prog) A2 Try.underlying43 rfl infoNm_size rfl rfl ?_; refine hK _ _ ?_; clear hK K)
    refine (hM _).mono ?_
    rintro e w3 ⟨rfl, b3⟩
    have W := W.trans (b3.mono W.size)
    have B3 := B2.later b3
    go_wp2_with (refine wp_want rfl fun K hK => ?_; first | (refine wp_blk_build0 rfl ?_; refine hK _ _ ?_; clear hK K) | refine wp_blk_store rfl rfl rfl Z56_length B3 ?_)
    intro w4 B4 g4 z4
    refine hK _ _ ?_
    clear hK K
    have W := below_row W g4 W.size (by have := b1.size; omega)
    go_wp2_with fail
    refine bodyPost_ret (results_blk2 rfl rfl rfl B4) rfl ⟨rfl, W⟩
  · obtain ⟨hi, hn, hp1, hp2, hg1⟩ := mayNm_facts hm
    obtain ⟨hs1, hs2⟩ := mayName_len hn
    have hput := fun w => put_any n.a n.b n.c w ok.a ok.b ok.c.2
    have hpl := putID_length hi
    have hgu := ok.g.2
    rw [hm] at hM
    have hres : blkV (entK n) (entBody n) = blkV 6 (entB n ++ Z56.drop (entB n).length) := by unfold entK entBody; rw [hm]; rfl
    rw [hres]
    have hBl : (entB n).length ≤ 56 := by
      unfold entB
      rw [List.length_append, List.length_append, hpl, midB_length]
      omega
    have hBe : entB n = putID n.a n.b n.c ++ midB n ++ n.s := rfl
    have hmc := mid_cells (p := n.p.toNat) (g := n.g.toNat) (k := n.s.length) (by omega) (by omega) hs2
    have hme : midB n = be 2 n.p.toNat ++ be 4 n.g.toNat ++ [UInt8.ofNat n.s.length] := rfl
    have hm7 := midB_length n
    rw [← hme, show ((n.p.toNat : Nat) : Int) = n.p by omega, show ((n.g.toNat : Nat) : Int) = n.g by omega] at hmc
    obtain ⟨a, b, c, s, p, g⟩ := n
    dsimp only at *
    clear hres hme hm ok
    generalize midB ⟨a, b, c, s, p, g⟩ = mid at *
    generalize entB ⟨a, b, c, s, p, g⟩ = eb at *
    have HBe := Lib.hid hBe
    have Hmc := Lib.hid hmc
    have Hpl := Lib.hid hpl
    have Hi := Lib.hid hi
    have Hm7 := Lib.hid hm7
    clear hBe hmc hpl hi hm7
    generalize putID a b c = pid at *
    go_enter Try.func23, Try.ntmps23
    go_wp2_with (refine wp_want rfl fun K hK => ?_; refine wp_rw_box (P := Try.prog) (t := 43) (nmA ⟨a, b, c, s, p, g⟩) rfl rfl ?_)
    intro w1 A1 b1 s1
    refine hK _ _ ?_
    clear hK K
    go_wp2_with (refine wp_want rfl fun K hK => ?_; refine wp_blk_alloc rfl ?_)
    intro w2 B2 b2 s2
    refine hK _ _ ?_
    clear hK K
    have W := b1.trans (b2.mono b1.size)
    have A2 := RowAt.later A1 b2
    go_wp2_with (refine wp_want rfl fun K hK => ?_; refine wp_rw_load (P := Try.prog) A2 Try.underlying43 rfl infoNm_size rfl rfl ?_; refine hK _ _ ?_; clear hK K)
    refine (hM _).mono ?_
    rintro e w3 ⟨rfl, b3⟩
    have W := W.trans (b3.mono W.size)
    have B3 := B2.later b3
    have A3 := RowAt.later A2 b3
    go_wp2_with fail
    have hdr := (Below.refl w3.heap.size w3).drew
    have A3d := A3.drew
    have c0 := fun x : Lat w3.drew => cell_later x.2 (A3d.cell 0 (.int .i64 a) rfl)
    have c1 := fun x : Lat w3.drew => cell_later x.2 (A3d.cell 1 (.int .i64 b) rfl)
    have c2 := fun x : Lat w3.drew => cell_later x.2 (A3d.cell 2 (.int .u32 c) rfl)
    have c3 := fun x : Lat w3.drew => cell_later x.2 (A3d.cell 3 (str s) rfl)
    have c4 := fun x : Lat w3.drew => cell_later x.2 (A3d.cell 4 (.int .i64 p) rfl)
    have c5 := fun x : Lat w3.drew => cell_later x.2 (A3d.cell 5 (.int .u32 g) rfl)
    refine wp_region_rely 35 (by kernel_rfl) (by kernel_rfl) ?_
    simp only [List.take_succ_cons, List.take_zero]
    generalize World.drew w3 = wd at *
    repeat (first
      | (refine wpR_step0 ?_ ?_ (fun K hK => ?_); rfl; rfl; go_simp; refine hK _ ?_; clear hK K))
    refine wpR_fresh (SlB 7 pid) 12 rfl rfl rfl rfl (of_decide_eq_true rfl) (persist_slB _ _) (fun x => ?_) ?_
    · go_simp
      refine (hput _).mono ?_
      rintro e wq ⟨u, rfl, hO, _, hsh, hb⟩
      obtain ⟨g', rfl⟩ := hsh Hi.out
      exact ⟨_, rfl, hb, _, _, rfl, hO.rd⟩
    repeat (first
      | (refine wpR_step0 ?_ ?_ (fun K hK => ?_); rfl; rfl; go_simp; refine hK _ ?_; clear hK K))
    refine wpR_fresh (SlB 7 mid) 39 rfl rfl rfl rfl (of_decide_eq_true rfl) (persist_slB _ _) (fun x => ?_) ?_
    · go_simp
      simp only [IntKind.wrap_u8]
      rw [Hmc.out]
      have h := Rd.new x.val (bs mid).toArray 5 (0, 0) 7 (by rw [List.size_toArray, bs_length, Hm7.out]) (by rw [List.size_toArray, bs_length, Hm7.out]; decide)
      exact ⟨below_new _ _, _, _, rfl, h⟩
    repeat (first
      | (refine wpR_step0 ?_ ?_ (fun K hK => ?_); rfl; rfl; go_simp; refine hK _ ?_; clear hK K))
    refine wpR_fresh (SlB s.length s) 42 rfl rfl rfl rfl (of_decide_eq_true rfl) (persist_slB _ _) (fun x => ?_) ?_
    · obtain ⟨cc, W', hcv, hrd, hb⟩ := bytes_of x.val s (by omega)
      go_simp
      exact ⟨_, _, rfl, hrd⟩
    refine wpR_freshE (Three pid mid s) 43 [(42, SlB s.length s), (39, SlB 7 mid), (12, SlB 7 pid)] rfl rfl rfl rfl (of_decide_eq_true rfl) (persist_three _ _ _) (fun x => ?_) ?_
    · simp only [close]
      rintro u42 ⟨g42, k42, rfl, h42⟩ u39 ⟨g39, k39, rfl, h39⟩ u12 ⟨g12, k12, rfl, h12⟩
      go_simp
      have hc := heap_alloc_last x.val (.cells #[Value.slice (some ⟨g12, 0, none⟩) 7 k12, Value.slice (some ⟨g39, 0, none⟩) 7 k39, Value.slice (some ⟨g42, 0, none⟩) s.length k42] 37)
      exact ⟨below_new _ _, _, _, _, _, rfl, by rw [cell_of_row _ _ 0 _ _ _ hc]; rfl, by rw [cell_of_row _ _ 1 _ _ _ hc]; rfl, by rw [cell_of_row _ _ 2 _ _ _ hc]; rfl, h12.below (below_new _ _), h39.below (below_new _ _), h42.below (below_new _ _)⟩
    refine wpR_freshE (fun v W => OB W wd.heap.size v eb) 44 [(43, Three pid mid s)] rfl rfl rfl rfl (of_decide_eq_true rfl) (fun v W W' h hb => h.below hb) (fun x => ?_) ?_
    · simp only [close]
      rintro u43 ⟨g5, v0, v1, v2, rfl, h1, h2, h3, h4, h5, h6⟩
      go_simp
      refine (concat3_any g5 v0 v1 v2 pid mid s x.val h1 h2 h3 h4 h5 h6 (by rw [List.length_append, List.length_append, Hpl.out]; omega) (by rw [List.length_append, List.length_append, Hpl.out, Hm7.out]; omega)).mono ?_
      rintro e wq ⟨u, rfl, hO, hb⟩
      rw [HBe.out]
      exact ⟨u, rfl, hb, hO.mono x.2.size⟩
    repeat (first
      | (refine wpR_step0 ?_ ?_ (fun K hK => ?_); rfl; rfl; go_simp; refine hK _ ?_; clear hK K))
    refine wpR_nil fun x => ?_
    obtain ⟨wz, wzb⟩ := x
    simp only [close, List.drop_succ_cons, List.drop_zero]
    intro u44 h44 u43 _ u42 _ u39 _ u12 _
    have W := W.trans ((hdr.mono W.size).trans (wzb.mono (Nat.le_trans W.size hdr.size)))
    have B3 := B3.later (hdr.trans (wzb.mono hdr.size))
    have hltz := B3.lt
    have R44 : Rd wz u44 (bs eb) := OB.rd h44
    obtain ⟨a44, k44, ev, _⟩ := id R44
    rw [bs_length] at ev
    subst ev
    clear h44 wzb A3 A3d c0 c1 c2 c3 c4 c5 A2 A1
    go_wp2_with (refine wp_want rfl fun K hK => ?_; first | (refine wp_blk_build rfl rfl ?_; refine hK _ _ ?_; clear hK K) | refine wp_blk_alloc rfl ?_)
    intro w4 B4 b4 s4
    refine hK _ _ ?_
    clear hK K
    go_wp2_with (refine wp_want rfl fun K hK => ?_; refine wp_blk_store rfl rfl rfl Z56_length B4 ?_)
    intro w5 B5 g5 z5
    refine hK _ _ ?_
    clear hK K
    have b5 := below_row b4 g5 b4.size (Nat.le_refl _)
    have W := W.trans (b5.mono W.size)
    have B3 := B3.later b5
    have R5 := R44.below b5
    have ys := fun w2 => slice_body_all (g := wz.heap.size) w2
    clear B4 b4 s4 g5 z5
    obtain ⟨w6, hcp, B6, g6, z6⟩ := run_copy_body 3 w5 B5 (.slice a44 eb.length k44) eb R5 hBl
    have W := below_row W g6 W.size (by have := W.size; have := B3.lt; have := b5.size; omega)
    have hlt : w1.heap.size < wz.heap.size := hltz
    have B3 := B3.grown g6 (by omega)
    go_wp2_with (refine wp_want rfl fun K hK => ?_; first | (refine wp_blk_load rfl rfl B6 ?_; refine hK _ _ ?_; clear hK K) | refine wp_blk_store rfl rfl rfl B6.1 B3 ?_)
    intro w7 B7 g7 z7
    refine hK _ _ ?_
    clear hK K
    have W := below_row W g7 W.size (by have := b1.size; omega)
    go_wp2_with fail
    refine bodyPost_ret (results_blk2 rfl rfl rfl B7) rfl ⟨rfl, W⟩
end Go.Proofs.Ytgeiafijibgdhaa.Cl
