/- The law NodeForms: the walk (printed by mknodh.py). -/
import Derived.Test.YtgeiafijibgdhaaNodH
import Derived.Test.YtgeiafijibgdhaaZag
set_option linter.unusedVariables false
set_option linter.unusedSimpArgs false
namespace Go.Proofs.Ytgeiafijibgdhaa.Cl
open Go Go.Proofs Go.RowKit Fl Rely

theorem rely_load {P : Program} {ops : Array Oper} {w0 : World} {Q : Act → World → Prop} {o : Oper} {rest : List Oper} {a : Act} {ty : TypeId} {x : Operand} {ad : Addr} {v : Value} (hl : ∀ y : RelyT.Lat w0, (loadVar ty ad).run P y.1 = .ok v y.1)
    (hg : RelyT.guardB ops o [] = true) (hw : Region.wanted o (yielded ops a.tmps) = true) (ho : o.op = .load ty x) (hx : a.eval x = .pointer (some ad)) (hk : RelyT.wpR P ops w0 Q rest [] (a.put o.dst v)) : RelyT.wpR P ops w0 Q (o :: rest) [] a := by
  refine RelyT.wpR_settled v [] hg rfl hw (fun y => ?_) hk
  show RelyT.quietR P y.1 v ((execOp a.eval o).run P y.1)
  unfold execOp
  simp only [ho, hx, Instr.loadAt, Instr.sureAddr, Sem.run_bind, Sem.run_pure, Result.andThen_ok, hl y]
  exact ⟨rfl, rfl⟩
theorem run_nd_load {W : World} {g s : Nat} {t : TypeId} {cs : Array Value} (h : RowAt W g t cs) (n : Nd) (hv : ∀ j u, (ndL n)[j]? = some u → cs[s + j]? = some u) : (loadVar 25 ⟨g, s, none⟩).run Try.prog W = .ok (ndV n) W :=
  run_load_atP W ⟨g, s, none⟩ 25 (ndL n) _ (fun i u hj => by rw [Addr.add_lit]; exact h.cell _ _ (hv i u hj)) Try.underlying25 rfl infoNd_size
theorem zag_load {P : Program} {ops : Array Oper} {M : List Nat} {S : World → Prop} {Q : Exit → Act → World → Prop} {n i : Nat} {D : List Nat} {o : Oper} {a : Act} {w : World} {ty : TypeId} {x : Operand} {ad : Addr} {v : Value} (hl' : ∀ y : Zig.Lt S, (loadVar ty ad).run P y.1 = .ok v y.1)
    (Ls : List Nat) (hi : Zag.nextL ops Ls D = some i) (ho : ops[i]? = some o) (hl : Zag.lightOkB ops i = true) (hM : M.contains i = true) (hw : Region.wanted o (yielded ops a.tmps) = true) (hop : o.op = .load ty x) (hx : a.eval x = .pointer (some ad))
    (h : Zag.ZT P ops M S Q n (i :: D) (a.put o.dst v) w) : Zag.ZT P ops M S Q (n + 1) D a w := by
  refine Zag.zag_readV Ls v hi ho hl hM hw (fun y => ?_) h
  unfold execOp
  simp only [hop, hx, Instr.loadAt, Instr.sureAddr, Sem.run_bind, Sem.run_pure, Result.andThen_ok, hl' y]
theorem exec_blk_alloc {ρ : Operand → Value} {o : Oper} (hop : o.op = .alloc 28) (W : World) : (execOp ρ o).run Try.prog W = .ok (.value (.pointer (some ⟨W.heap.size, 0, none⟩))) (W.alloc (.cells (bc 0 Z56).toArray 28)) := by
  obtain ⟨i, hi, hz, hs, hb⟩ := info_parts infoBlk
  unfold execOp
  simp only [hop, Instr.alloc, zeroValue, Sem.run_bind, run_typeInfo W hi, Result.andThen_ok, hz, newVar, newRow, run_newObj_alloc, Sem.run_pure]
  rfl
def NfBlk (B : Nat) (v : Value) (W : World) : Prop := ∃ g, v = .pointer (some ⟨g, 0, none⟩) ∧ B ≤ g ∧ BlkAt W g 0 Z56
def NfFill (w : World) (g2 g5 g6 : Nat) (i : Value) (wr : World) : Prop := ∃ k : Nat, k ≤ 12 ∧ i = .int .i64 (k : Int) ∧ RowAt wr g2 25 (ndA gd) ∧ RowAt wr g5 25 (nfC (fillN k)) ∧ RowAt wr g6 3 nfKs ∧ Below w.heap.size w wr
def NfAll (w : World) (g2 g5 g6 : Nat) (i : Value) (wr : World) : Prop := ∃ k : Nat, k ≤ 12 ∧ i = .int .i64 (k : Int) ∧ RowAt wr g2 25 (ndA gd) ∧ RowAt wr g5 25 (nfC nf13) ∧ RowAt wr g6 3 nfKs ∧ Below w.heap.size w wr
set_option maxRecDepth 100000 in
set_option maxHeartbeats 8000000 in
theorem ndForms_law (w : World) : Calls Try.prog 5 #[] w fun e w' => e = .returned (.bool true) ∧ Below w.heap.size w w' := by
  go_enter Try.func5, Try.ntmps5
  go_wp2_with fail
  refine (ndBegun_any _).mono ?_
  rintro e w1 ⟨rfl, b1⟩
  have W := b1
  clear b1
  have nnN4 := W.size
  go_wp2_with (refine wp_want rfl fun K hK => ?_; first | refine wp_rw_alloc (P := Try.prog) (t := 23) (.agg #[.int .i64 0, .int .i64 0, .int .i64 0, .int .i64 0]) info4_zero rfl ?_)
  intro w2 Y2 c2 s2
  refine hK _ _ ?_
  clear hK K
  go_wp2_with (refine wp_want rfl fun K hK => ?_; first | refine wp_rw_store (P := Try.prog) (cs := #[.int .i64 (-1), .int .i64 (-1), .int .i64 (-1), .int .i64 (-1)]) Y2 info4_size rfl (by simp [Value.oneCell']) rfl rfl rfl ?_)
  intro w3 Z3 g3 z3
  refine hK _ _ ?_
  clear hK K
  have d3 := below_row c2 g3 c2.size (Nat.le_refl _)
  have W := W.trans (d3.mono W.size)
  have N4 := Z3
  clear Y2 c2 s2 Z3 g3 z3 d3
  have nnGD := W.size
  go_wp2_with (refine wp_want rfl fun K hK => ?_; first | (refine wp_rw_load (P := Try.prog) N4 Try.underlying23 rfl info4_size rfl rfl ?_; refine hK _ _ ?_; clear hK K) | refine wp_rw_alloc (P := Try.prog) (t := 25) (ndV zNd) infoNd_zero rfl ?_)
  intro w4 Y4 c4 s4
  refine hK _ _ ?_
  clear hK K
  go_wp2_with (refine wp_want rfl fun K hK => ?_; first | (refine wp_rw_load (P := Try.prog) N4 Try.underlying23 rfl info4_size rfl rfl ?_; refine hK _ _ ?_; clear hK K) | refine wp_rw_store (P := Try.prog) (cs := ndA gd) Y4 infoNd_size rfl (ndA_all _) rfl rfl rfl ?_)
  intro w5 Z5 g5 z5
  refine hK _ _ ?_
  clear hK K
  have d5 := below_row c4 g5 c4.size (Nat.le_refl _)
  have lGDN4 := RowAt.lt N4
  have N4 := RowAt.later N4 d5
  have W := W.trans (d5.mono W.size)
  have GD := Z5
  clear Y4 c4 s4 Z5 g5 z5 d5
  clear N4
  generalize hg2 : w3.heap.size = g2 at *
  have hg2l : w.heap.size ≤ g2 := by have := nnGD; omega
  clear hg2
  have hmk0 : ∀ W : World, (Instr.makeSlice 37 (.int .i64 0) (.int .i64 0)).run Try.prog W = .ok (.slice (some ⟨W.heap.size, 0, none⟩) 0 0) (W.alloc (.cells #[] 5)) := fun W => by kernel_rfl
  have hrd : Rd (w5.alloc (.cells #[] 5)) (.slice (some ⟨w5.heap.size, 0, none⟩) 0 0) (bs []) := Rd.new w5 #[] 5 (0, 0) 0 rfl (by simp)
  have hcv := run_string_of (P := Try.prog) hrd 37 5 9 Try.underlying37 Try.underlying5 Try.underlying9
  clear hrd
  go_wp2_with fail
  clear hcv
  go_loopw [3, 4] (fun v i wr => NfLong w (World.alloc w5 (.cells #[] 5)) v i wr) (fun _ i _ => 33 - (intOf i).toNat)
  case atStart => exact ⟨0, [], Nat.zero_le _, rfl, rfl, Lib.hid rfl, rfl⟩
  case round =>
    obtain ⟨k, ll, hk, rfl, rfl, hll, rfl⟩ := hrel
    by_cases hk33 : k < 33
    · have hkI : (k : Int) < 33 := by omega
      have hl33 : ll.length ≤ 33 := by rw [hll.out, List.length_replicate]; omega
      go_wp2_with fail
      exact ⟨⟨k + 1, ll ++ [120], by omega, by go_num, str_snoc ll, Lib.hid (by rw [hll.out, List.replicate_succ']), rfl⟩, by simp only [intOf]; omega⟩
    · have hkI : ¬ (k : Int) < 33 := by omega
      obtain rfl : k = 33 := by omega
      clear hmk0
      obtain rfl : ll = List.replicate 33 120 := hll.out
      generalize hw6 : World.alloc w5 (.cells #[] 5) = w6
      have b6 : Below w5.heap.size w5 w6 := by rw [← hw6]; exact below_new _ _
      clear hw6
      have GD := RowAt.later GD b6
      have W := W.trans (b6.mono W.size)
      clear b6
      have hw6s := W.size
      have hl2 := GD.lt
      go_wp2_with (refine wp_want rfl fun K hK => ?_; refine wp_nd_make rfl rfl rfl ?_)
      intro w7 A5 b7 s7
      refine hK _ _ ?_
      clear hK K
      have GD := RowAt.later GD b7
      have W := W.trans (b7.mono W.size)
      clear b7 s7
      go_wp2_with fail
      generalize hw8 : World.alloc w7 _ = w8
      have K6 : RowAt w8 w7.heap.size 3 nfKs := by rw [← hw8]; exact RowAt.new _ _ _
      have b8 : Below w7.heap.size w7 w8 := by rw [← hw8]; exact below_new _ _
      clear hw8
      have l6 := A5.lt
      have h5 : w.heap.size ≤ w6.heap.size := hw6s
      have GD := RowAt.later GD b8
      have A5 := RowAt.later A5 b8
      have W := W.trans (b8.mono W.size)
      clear b8
      generalize w6.heap.size = g5 at *
      generalize w7.heap.size = g6 at *
      go_loopw [7] (fun i wr => NfFill w g2 g5 g6 i wr) (fun i _ => 12 - (intOf i).toNat)
      case atStart => exact ⟨0, Nat.zero_le _, rfl, GD, A5, K6, W⟩
      case round =>
        clear GD A5 K6 W
        rename World => wr
        obtain ⟨k, hk, rfl, GD, A5, K6, W⟩ := hrel
        by_cases hk12 : k < 12
        · have hkI : (k : Int) < 12 := by omega
          have hst := fillN_step k hk12
          have hsz := fillN_size k (by omega)
          go_wp2_with (refine wp_want rfl fun K hK => ?_; first | (refine wp_rw_load (P := Try.prog) GD Try.underlying25 rfl infoNd_size rfl rfl ?_; refine hK _ _ ?_; clear hK K) | refine wp_rw_storeP (P := Try.prog) (s := k * 9) (v := ndV gd) A5 infoNd_size (by rw [hsz]; show k * 9 + 9 ≤ 108; omega) (ndOne gd) rfl rfl rfl ?_)
          intro w9 A9 g9 z9
          have A9 : RowAt w9 g5 25 (nfC (fillN (k + 1))) := by first | exact A9 | (rw [← hst]; exact A9)
          refine hK _ _ ?_
          clear hK K z9 hst hsz
          have GD := GD.grown g9 (by omega)
          have K6 := K6.grown g9 (by omega)
          have W := below_row W g9 W.size (by omega)
          clear A5 g9
          go_wp2_with fail
          go_roundw
          case rel => exact ⟨k + 1, by omega, by go_num, GD, A9, K6, W⟩
          case measure => simp only [intOf]; omega
        · have hkI : ¬ (k : Int) < 12 := by omega
          obtain rfl : k = 12 := by omega
          have A5 : RowAt wr g5 25 (nfC nf0) := A5
          have SS : True := trivial
          go_upto_region 16 with fail
          have W := W.drew
          have GD := GD.drew
          have A5 := A5.drew
          have K6 := K6.drew
          refine ZigS.wp_region_zigS [(false, 0), (false, 1), (false, 2), (false, 3), (false, 4), (false, 5), (false, 6), (false, 7), (false, 8), (false, 9), (false, 10), (false, 21), (false, 22), (true, 11), (false, 12), (false, 13), (true, 14), (false, 15), (false, 16), (true, 17), (false, 18), (false, 19), (true, 20), (false, 23), (true, 24), (false, 25), (false, 26), (true, 27), (false, 28), (false, 29), (true, 30), (false, 31), (false, 32), (true, 33), (false, 34), (false, 35), (true, 36)] (fun W => True) (by kernel_rfl) (by kernel_rfl) SS ?_
          simp only [Zig.sel, List.drop_succ_cons, List.drop_zero]
          generalize World.drew wr = wd at *
          haveI : Nonempty (Zig.Lt (fun W => True)) := ⟨⟨wd, SS⟩⟩
          repeat (refine ZigS.zig_step (fun K hK => ?_); go_simp; refine hK _ ?_; clear hK K)
          refine ZigS.zig_do rfl (fun K hK => ?_)
          refine wp_rw_storeP (P := Try.prog) (s := 0) (v := .int .u32 0) A5 infoU32_size (by rw [nf_size]; decide) (by intro u hu; simp [Value.cells] at hu; rw [hu]; rfl) rfl rfl rfl ?_
          intro v0 B0 q0 z0
          have B0 : RowAt v0 g5 25 (nfC nf1) := by rw [← nf0_step]; exact B0
          refine hK _ _ trivial ?_
          clear hK K
          have GD := GD.grown q0 (by omega)
          have K6 := K6.grown q0 (by omega)
          have W := below_row W q0 W.size (by omega)
          have A5 := B0
          clear B0 q0 z0
          repeat (refine ZigS.zig_step (fun K hK => ?_); go_simp; refine hK _ ?_; clear hK K)
          refine ZigS.zig_do rfl (fun K hK => ?_)
          refine wp_rw_storeP (P := Try.prog) (s := 10) (v := .int .i64 (-1)) A5 infoI_size (by rw [nf1_size]; decide) (by intro u hu; simp [Value.cells] at hu; rw [hu]; rfl) rfl rfl rfl ?_
          intro v1 B1 q1 z1
          have B1 : RowAt v1 g5 25 (nfC nf2) := by rw [← nf1_step]; exact B1
          refine hK _ _ trivial ?_
          clear hK K
          have GD := GD.grown q1 (by omega)
          have K6 := K6.grown q1 (by omega)
          have W := below_row W q1 W.size (by omega)
          have A5 := B1
          clear B1 q1 z1
          repeat (refine ZigS.zig_step (fun K hK => ?_); go_simp; refine hK _ ?_; clear hK K)
          refine ZigS.zig_do rfl (fun K hK => ?_)
          refine wp_rw_storeP (P := Try.prog) (s := 19) (v := .int .i64 1001) A5 infoI_size (by rw [nf2_size]; decide) (by intro u hu; simp [Value.cells] at hu; rw [hu]; rfl) rfl rfl rfl ?_
          intro v2 B2 q2 z2
          have B2 : RowAt v2 g5 25 (nfC nf3) := by rw [← nf2_step]; exact B2
          refine hK _ _ trivial ?_
          clear hK K
          have GD := GD.grown q2 (by omega)
          have K6 := K6.grown q2 (by omega)
          have W := below_row W q2 W.size (by omega)
          have A5 := B2
          clear B2 q2 z2
          repeat (refine ZigS.zig_step (fun K hK => ?_); go_simp; refine hK _ ?_; clear hK K)
          refine ZigS.zig_do rfl (fun K hK => ?_)
          refine wp_rw_storeP (P := Try.prog) (s := 29) (v := .int .i64 1121) A5 infoI_size (by rw [nf3_size]; decide) (by intro u hu; simp [Value.cells] at hu; rw [hu]; rfl) rfl rfl rfl ?_
          intro v3 B3 q3 z3
          have B3 : RowAt v3 g5 25 (nfC nf4) := by rw [← nf3_step]; exact B3
          refine hK _ _ trivial ?_
          clear hK K
          have GD := GD.grown q3 (by omega)
          have K6 := K6.grown q3 (by omega)
          have W := below_row W q3 W.size (by omega)
          have A5 := B3
          clear B3 q3 z3
          repeat (refine ZigS.zig_step (fun K hK => ?_); go_simp; refine hK _ ?_; clear hK K)
          refine ZigS.zig_do rfl (fun K hK => ?_)
          refine wp_rw_storeP (P := Try.prog) (s := 39) (v := .int .i64 0) A5 infoI_size (by rw [nf4_size]; decide) (by intro u hu; simp [Value.cells] at hu; rw [hu]; rfl) rfl rfl rfl ?_
          intro v4 B4 q4 z4
          have B4 : RowAt v4 g5 25 (nfC nf5) := by rw [← nf4_step]; exact B4
          refine hK _ _ trivial ?_
          clear hK K
          have GD := GD.grown q4 (by omega)
          have K6 := K6.grown q4 (by omega)
          have W := below_row W q4 W.size (by omega)
          have A5 := B4
          clear B4 q4 z4
          repeat (refine ZigS.zig_step (fun K hK => ?_); go_simp; refine hK _ ?_; clear hK K)
          refine ZigS.zig_do rfl (fun K hK => ?_)
          refine wp_rw_storeP (P := Try.prog) (s := 52) (v := .int .i64 200) A5 infoI_size (by rw [nf5_size]; decide) (by intro u hu; simp [Value.cells] at hu; rw [hu]; rfl) rfl rfl rfl ?_
          intro v5 B5 q5 z5
          have B5 : RowAt v5 g5 25 (nfC nf6) := by rw [← nf5_step]; exact B5
          refine hK _ _ trivial ?_
          clear hK K
          have GD := GD.grown q5 (by omega)
          have K6 := K6.grown q5 (by omega)
          have W := below_row W q5 W.size (by omega)
          have A5 := B5
          clear B5 q5 z5
          repeat (refine ZigS.zig_step (fun K hK => ?_); go_simp; refine hK _ ?_; clear hK K)
          refine ZigS.zig_do rfl (fun K hK => ?_)
          refine wp_rw_storeP (P := Try.prog) (s := 62) (v := str [120]) A5 infoStr_size (by rw [nf6_size]; decide) (by intro u hu; simp [Value.cells] at hu; rw [hu]; rfl) rfl rfl rfl ?_
          intro v6 B6 q6 z6
          have B6 : RowAt v6 g5 25 (nfC nf7) := by rw [← nf6_step]; exact B6
          refine hK _ _ trivial ?_
          clear hK K
          have GD := GD.grown q6 (by omega)
          have K6 := K6.grown q6 (by omega)
          have W := below_row W q6 W.size (by omega)
          have A5 := B6
          clear B6 q6 z6
          repeat (refine ZigS.zig_step (fun K hK => ?_); go_simp; refine hK _ ?_; clear hK K)
          refine ZigS.zig_do rfl (fun K hK => ?_)
          refine wp_rw_storeP (P := Try.prog) (s := 65) (v := .int .i64 1) A5 infoI_size (by rw [nf7_size]; decide) (by intro u hu; simp [Value.cells] at hu; rw [hu]; rfl) rfl rfl rfl ?_
          intro v7 B7 q7 z7
          have B7 : RowAt v7 g5 25 (nfC nf8) := by rw [← nf7_step]; exact B7
          refine hK _ _ trivial ?_
          clear hK K
          have GD := GD.grown q7 (by omega)
          have K6 := K6.grown q7 (by omega)
          have W := below_row W q7 W.size (by omega)
          have A5 := B7
          clear B7 q7 z7
          repeat (refine ZigS.zig_step (fun K hK => ?_); go_simp; refine hK _ ?_; clear hK K)
          refine ZigS.zig_do rfl (fun K hK => ?_)
          refine wp_rw_storeP (P := Try.prog) (s := 73) (v := .int .i64 2) A5 infoI_size (by rw [nf8_size]; decide) (by intro u hu; simp [Value.cells] at hu; rw [hu]; rfl) rfl rfl rfl ?_
          intro v8 B8 q8 z8
          have B8 : RowAt v8 g5 25 (nfC nf9) := by rw [← nf8_step]; exact B8
          refine hK _ _ trivial ?_
          clear hK K
          have GD := GD.grown q8 (by omega)
          have K6 := K6.grown q8 (by omega)
          have W := below_row W q8 W.size (by omega)
          have A5 := B8
          clear B8 q8 z8
          refine ZigS.zig_nil ?_
          go_wp2_with (refine wp_want rfl fun K hK => ?_; refine wp_rw_storeP (P := Try.prog) (s := 89) (v := str (List.replicate 33 120)) A5 infoStr_size (by rw [nf9_size]; decide) (by intro u hu; simp [Value.cells] at hu; rw [hu]; rfl) rfl rfl rfl ?_)
          intro v9 B9 q9 z9
          have B9 : RowAt v9 g5 25 (nfC nf10) := by rw [← nf9_step]; exact B9
          refine hK _ _ ?_
          clear hK K
          have GD := GD.grown q9 (by omega)
          have K6 := K6.grown q9 (by omega)
          have W := below_row W q9 W.size (by omega)
          have A5 := B9
          clear B9 q9 z9
          go_wp2_with (refine wp_want rfl fun K hK => ?_; refine wp_rw_storeP (P := Try.prog) (s := 83) (v := .int .i64 33) A5 infoI_size (by rw [nf10_size]; decide) (by intro u hu; simp [Value.cells] at hu; rw [hu]; rfl) rfl rfl rfl ?_)
          intro v10 B10 q10 z10
          have B10 : RowAt v10 g5 25 (nfC nf11) := by rw [← nf10_step]; exact B10
          refine hK _ _ ?_
          clear hK K
          have GD := GD.grown q10 (by omega)
          have K6 := K6.grown q10 (by omega)
          have W := below_row W q10 W.size (by omega)
          have A5 := B10
          clear B10 q10 z10
          go_wp2_with (refine wp_want rfl fun K hK => ?_; refine wp_rw_storeP (P := Try.prog) (s := 98) (v := str [97, 32, 98]) A5 infoStr_size (by rw [nf11_size]; decide) (by intro u hu; simp [Value.cells] at hu; rw [hu]; rfl) rfl rfl rfl ?_)
          intro v11 B11 q11 z11
          have B11 : RowAt v11 g5 25 (nfC nf12) := by rw [← nf11_step]; exact B11
          refine hK _ _ ?_
          clear hK K
          have GD := GD.grown q11 (by omega)
          have K6 := K6.grown q11 (by omega)
          have W := below_row W q11 W.size (by omega)
          have A5 := B11
          clear B11 q11 z11
          go_wp2_with (refine wp_want rfl fun K hK => ?_; refine wp_rw_storeP (P := Try.prog) (s := 92) (v := .int .i64 3) A5 infoI_size (by rw [nf12_size]; decide) (by intro u hu; simp [Value.cells] at hu; rw [hu]; rfl) rfl rfl rfl ?_)
          intro v12 B12 q12 z12
          have B12 : RowAt v12 g5 25 (nfC nf13) := by rw [← nf12_step]; exact B12
          refine hK _ _ ?_
          clear hK K
          have GD := GD.grown q12 (by omega)
          have K6 := K6.grown q12 (by omega)
          have W := below_row W q12 W.size (by omega)
          have A5 := B12
          clear B12 q12 z12
          go_wp2_with fail
          go_loopw [8, 9, 10] (fun i _ _ wr => NfAll w g2 g5 g6 i wr) (fun i _ _ _ => 12 - (intOf i).toNat)
          case atStart => exact ⟨0, Nat.zero_le _, rfl, GD, A5, K6, W⟩
          case round =>
            clear GD A5 K6 W
            rename World => wr
            obtain ⟨k, hk, rfl, GD, A5, K6, W⟩ := hrel
            by_cases hk12 : k < 12
            · have hkI : (k : Int) < 12 := by omega
              have hnc := nf_cells k hk12
              have hok := nf_ok k hk12
              have hbad := nf_bad k hk12
              have hkk := nfK_cell k hk12
              have hkc := K6.cell k _ hkk
              have lt5 := A5.lt
              have lt6 := K6.lt
              have lt2 := GD.lt
              generalize nfK.getD k 0 = kd at *
              generalize nf13.getD k gd = nd at *
              have hput := fun w => ndPut_any kd nd w hok
              have hmay := fun w => ndMay_any kd nd w hok
              simp only [hbad, decide_false] at hput hmay
              rw [show ndK kd nd = 0 from if_neg (by rw [hbad]; exact not_false), show ndBody kd nd = Z56 from if_neg (by rw [hbad]; exact not_false)] at hput
              clear hok hbad
              have hdr : Below wr.heap.size wr wr.drew := (Below.refl _ _).drew
              have HS : wr.drew.cell? ⟨g6, k, none⟩ = some (.int .i64 kd) ∧ RowAt wr.drew g5 25 (nfC nf13) := ⟨hkc, A5⟩
              clear hkc
              go_upto_region 21 with fail
              refine Zag.wp_region_zag 15 [3, 7] (fun W => W.cell? ⟨g6, k, none⟩ = some (.int .i64 kd) ∧ RowAt W g5 25 (nfC nf13)) rfl (by kernel_rfl) (by kernel_rfl) HS ?_
              generalize World.drew wr = wd at *
              haveI : Nonempty (Zig.Lt (fun W => W.cell? ⟨g6, k, none⟩ = some (.int .i64 kd) ∧ RowAt W g5 25 (nfC nf13))) := ⟨⟨wd, HS⟩⟩
              haveI : Nonempty (Zig.Lt (fun _ : World => True)) := ⟨⟨wd, trivial⟩⟩
              have x6 := fun x : Zig.Lt (fun W => W.cell? ⟨g6, k, none⟩ = some (.int .i64 kd) ∧ RowAt W g5 25 (nfC nf13)) => x.2.1
              have x5 := fun x : Zig.Lt (fun W => W.cell? ⟨g6, k, none⟩ = some (.int .i64 kd) ∧ RowAt W g5 25 (nfC nf13)) => run_nd_load x.2.2 nd hnc
              repeat (first | (refine Zag.zag_light [0, 1, 2, 3, 4, 5, 6] rfl rfl (by kernel_rfl) rfl (fun K hK => ?_); go_simp; refine hK _ ?_; clear hK K) | (refine Zag.zag_read [0, 1, 2, 3, 4, 5, 6] rfl rfl (by kernel_rfl) rfl (fun K hK => ?_); go_simp; refine hK _ ?_; clear hK K))
              refine zag_load x5 [7] rfl rfl (by kernel_rfl) rfl rfl rfl rfl ?_
              clear x6 x5
              refine Zag.zag_branch [8, 12] rfl ?_
              refine Zag.each_do rfl rfl (fun K hK => ?_) (Zag.each_do rfl rfl (fun K hK => ?_) Zag.each_nil)
              · skip
                unfold Oper.wp
                go_simp
                refine (hput _).mono ?_
                rintro ee v1 ⟨rfl, bv1⟩
                have hdr := hdr.trans (bv1.mono hdr.size)
                have HS := And.intro (cell_later bv1 HS.1) (RowAt.later HS.2 bv1)
                refine hK _ _ HS ?_
                clear hK K
                repeat (first | (refine Zag.zag_light [9, 10, 11] rfl rfl (by kernel_rfl) rfl (fun K hK => ?_); go_simp; refine hK _ ?_; clear hK K) | (refine Zag.zag_read [9, 10, 11] rfl rfl (by kernel_rfl) rfl (fun K hK => ?_); go_simp; refine hK _ ?_; clear hK K))
                refine Zag.zag_branch [12] rfl ?_
                refine Zag.each_do rfl rfl (fun K hK => ?_) Zag.each_nil
                refine wp_blk_alloc rfl ?_
                intro v2 B9 bv2 szv2
                have h9 := hdr.size
                have hdr := hdr.trans (bv2.mono hdr.size)
                have HS := And.intro (cell_later bv2 HS.1) (RowAt.later HS.2 bv2)
                refine hK _ _ HS ?_
                clear hK K bv1 bv2
                refine Zag.zag_branch [13] rfl ?_
                refine Zag.each_end rfl rfl (by kernel_rfl) (fun K hK => ?_) Zag.each_nil
                refine wp_blk_store rfl rfl rfl Z56_length B9 ?_
                intro w9 Z9 q9 z9
                refine hK _ _ ?_
                clear hK K
                repeat (first | (refine Zag.zag_light [9, 10, 11, 14] rfl rfl (by kernel_rfl) rfl (fun K hK => ?_); go_simp; refine hK _ ?_; clear hK K) | (refine Zag.zag_read [9, 10, 11, 14] rfl rfl (by kernel_rfl) rfl (fun K hK => ?_); go_simp; refine hK _ ?_; clear hK K))
                refine Zag.zag_nil ?_
                have GD := GD.later hdr
                have A5 := HS.2
                have K6 := K6.later hdr
                have W := W.trans (hdr.mono W.size)
                have wq := hdr.size
                clear HS hdr
                have GD := GD.grown q9 (by omega)
                have A5 := A5.grown q9 (by omega)
                have K6 := K6.grown q9 (by omega)
                have W := below_row W q9 W.size (by omega)
                have hkc := K6.cell k _ hkk
                clear Z9 q9 z9 B9
                have x6 := fun y : RelyT.Lat w9.drew => cell_later y.2 (show w9.drew.cell? _ = _ from hkc)
                have x5 := fun y : RelyT.Lat w9.drew => run_nd_load (RowAt.later (show RowAt w9.drew g5 _ _ from A5) y.2) nd hnc
                have hdr : Below w9.heap.size w9 w9.drew := (Below.refl _ _).drew
                go_upto_region 22 with fail
                refine RelyT.wp_region_rely 12 (by kernel_rfl) (by kernel_rfl) ?_
                simp only [List.take_succ_cons, List.take_zero]
                generalize World.drew w9 = wd at *
                repeat (first
                  | (refine RelyT.wpR_step0 ?_ ?_ (fun K hK => ?_); rfl; rfl; go_simp; refine hK _ ?_; clear hK K))
                refine rely_load x5 rfl rfl rfl rfl ?_
                repeat (first
                  | (refine RelyT.wpR_step0 ?_ ?_ (fun K hK => ?_); rfl; rfl; go_simp; refine hK _ ?_; clear hK K)
                  | (refine RelyT.wpR_step0 ?_ ?_ (fun K hK => ?_); rfl; rfl; go_simp; apply Exists.intro; refine ⟨fun x => ?_, hK _ ?_⟩; (first | (exact hmay _)); clear hK K))
                refine RelyT.wpR_nil fun x => ?_
                obtain ⟨we, web⟩ := x
                simp only [RelyT.close, List.drop_succ_cons, List.drop_zero]
                clear x6 x5
                have hdr := hdr.trans (web.mono hdr.size)
                have GD := GD.later hdr
                have A5 := A5.later hdr
                have K6 := K6.later hdr
                have W := W.trans (hdr.mono W.size)
                clear hdr web hkc
                go_wp2_with fail
                go_roundw
                case rel => exact ⟨k + 1, by omega, by go_num, GD, A5, K6, W⟩
                case measure => simp only [intOf]; omega
              · skip
                refine wp_blk_alloc rfl ?_
                intro v1 B9 bv1 szv1
                have h9 := hdr.size
                have hdr := hdr.trans (bv1.mono hdr.size)
                have HS := And.intro (cell_later bv1 HS.1) (RowAt.later HS.2 bv1)
                refine hK _ _ HS ?_
                clear hK K
                refine Zag.zag_branch [8] rfl ?_
                refine Zag.each_do rfl rfl (fun K hK => ?_) Zag.each_nil
                unfold Oper.wp
                go_simp
                refine (hput _).mono ?_
                rintro ee v2 ⟨rfl, bv2⟩
                have hdr := hdr.trans (bv2.mono hdr.size)
                have HS := And.intro (cell_later bv2 HS.1) (RowAt.later HS.2 bv2)
                have B9 := B9.later bv2
                refine hK _ _ HS ?_
                clear hK K bv1 bv2
                repeat (first | (refine Zag.zag_light [9, 10, 11] rfl rfl (by kernel_rfl) rfl (fun K hK => ?_); go_simp; refine hK _ ?_; clear hK K) | (refine Zag.zag_read [9, 10, 11] rfl rfl (by kernel_rfl) rfl (fun K hK => ?_); go_simp; refine hK _ ?_; clear hK K))
                refine Zag.zag_branch [13] rfl ?_
                refine Zag.each_end rfl rfl (by kernel_rfl) (fun K hK => ?_) Zag.each_nil
                refine wp_blk_store rfl rfl rfl Z56_length B9 ?_
                intro w9 Z9 q9 z9
                refine hK _ _ ?_
                clear hK K
                repeat (first | (refine Zag.zag_light [9, 10, 11, 14] rfl rfl (by kernel_rfl) rfl (fun K hK => ?_); go_simp; refine hK _ ?_; clear hK K) | (refine Zag.zag_read [9, 10, 11, 14] rfl rfl (by kernel_rfl) rfl (fun K hK => ?_); go_simp; refine hK _ ?_; clear hK K))
                refine Zag.zag_nil ?_
                have GD := GD.later hdr
                have A5 := HS.2
                have K6 := K6.later hdr
                have W := W.trans (hdr.mono W.size)
                have wq := hdr.size
                clear HS hdr
                have GD := GD.grown q9 (by omega)
                have A5 := A5.grown q9 (by omega)
                have K6 := K6.grown q9 (by omega)
                have W := below_row W q9 W.size (by omega)
                have hkc := K6.cell k _ hkk
                clear Z9 q9 z9 B9
                have x6 := fun y : RelyT.Lat w9.drew => cell_later y.2 (show w9.drew.cell? _ = _ from hkc)
                have x5 := fun y : RelyT.Lat w9.drew => run_nd_load (RowAt.later (show RowAt w9.drew g5 _ _ from A5) y.2) nd hnc
                have hdr : Below w9.heap.size w9 w9.drew := (Below.refl _ _).drew
                go_upto_region 22 with fail
                refine RelyT.wp_region_rely 12 (by kernel_rfl) (by kernel_rfl) ?_
                simp only [List.take_succ_cons, List.take_zero]
                generalize World.drew w9 = wd at *
                repeat (first
                  | (refine RelyT.wpR_step0 ?_ ?_ (fun K hK => ?_); rfl; rfl; go_simp; refine hK _ ?_; clear hK K))
                refine rely_load x5 rfl rfl rfl rfl ?_
                repeat (first
                  | (refine RelyT.wpR_step0 ?_ ?_ (fun K hK => ?_); rfl; rfl; go_simp; refine hK _ ?_; clear hK K)
                  | (refine RelyT.wpR_step0 ?_ ?_ (fun K hK => ?_); rfl; rfl; go_simp; apply Exists.intro; refine ⟨fun x => ?_, hK _ ?_⟩; (first | (exact hmay _)); clear hK K))
                refine RelyT.wpR_nil fun x => ?_
                obtain ⟨we, web⟩ := x
                simp only [RelyT.close, List.drop_succ_cons, List.drop_zero]
                clear x6 x5
                have hdr := hdr.trans (web.mono hdr.size)
                have GD := GD.later hdr
                have A5 := A5.later hdr
                have K6 := K6.later hdr
                have W := W.trans (hdr.mono W.size)
                clear hdr web hkc
                go_wp2_with fail
                go_roundw
                case rel => exact ⟨k + 1, by omega, by go_num, GD, A5, K6, W⟩
                case measure => simp only [intOf]; omega
            · have hkI : ¬ (k : Int) < 12 := by omega
              clear A5 K6
              have lg2 := GD.lt
              have nnTW := W.size
              go_wp2_with (refine wp_want rfl fun K hK => ?_; first | (refine wp_rw_load (P := Try.prog) GD Try.underlying25 rfl infoNd_size rfl rfl ?_; refine hK _ _ ?_; clear hK K) | refine wp_rw_alloc (P := Try.prog) (t := 25) (ndV zNd) infoNd_zero rfl ?_)
              intro w21 Y21 c21 s21
              refine hK _ _ ?_
              clear hK K
              go_wp2_with (refine wp_want rfl fun K hK => ?_; first | (refine wp_rw_load (P := Try.prog) GD Try.underlying25 rfl infoNd_size rfl rfl ?_; refine hK _ _ ?_; clear hK K) | refine wp_rw_store (P := Try.prog) (cs := ndA gd) Y21 infoNd_size rfl (ndA_all _) rfl rfl rfl ?_)
              intro w22 Z22 g22 z22
              refine hK _ _ ?_
              clear hK K
              have d22 := below_row c21 g22 c21.size (Nat.le_refl _)
              have lTWGD := RowAt.lt GD
              have GD := RowAt.later GD d22
              have W := W.trans (d22.mono W.size)
              have TW := Z22
              clear Y21 c21 s21 Z22 g22 z22 d22
              go_wp2_with (refine wp_want rfl fun K hK => ?_; first | (refine wp_rw_load (P := Try.prog) GD Try.underlying25 rfl infoNd_size rfl rfl ?_; refine hK _ _ ?_; clear hK K) | (refine wp_rw_load (P := Try.prog) TW Try.underlying25 rfl infoNd_size rfl rfl ?_; refine hK _ _ ?_; clear hK K) | refine wp_rw_storeP (P := Try.prog) (s := 3) (v := .agg #[.int .i64 5, .int .i64 (-1), .int .i64 (-1), .int .i64 (-1)]) TW info4_size (by decide) (by intro u hu; simp [Value.cells] at hu; rcases hu with rfl | rfl | rfl | rfl <;> rfl) rfl rfl rfl ?_)
              intro w23 Z23 q23 z23
              refine hK _ _ ?_
              clear hK K
              have Z23 : RowAt w23 _ 25 (ndA (⟨1, 1, 0, 5, -1, -1, -1, -1, []⟩ : Nd)) := Z23
              have GD := RowAt.grown GD q23 (by omega)
              have W := below_row W q23 W.size (by omega)
              have TW := Z23
              clear Z23 q23 z23
              go_wp2_with (refine wp_want rfl fun K hK => ?_; first | (refine wp_rw_load (P := Try.prog) GD Try.underlying25 rfl infoNd_size rfl rfl ?_; refine hK _ _ ?_; clear hK K) | (refine wp_rw_load (P := Try.prog) TW Try.underlying25 rfl infoNd_size rfl rfl ?_; refine hK _ _ ?_; clear hK K) | refine wp_rw_storeP (P := Try.prog) (s := 7) (v := .int .i64 5) TW infoI_size (by decide) (by intro u hu; simp [Value.cells] at hu; rw [hu]; rfl) rfl rfl rfl ?_)
              intro w24 Z24 q24 z24
              refine hK _ _ ?_
              clear hK K
              have Z24 : RowAt w24 _ 25 (ndA (⟨1, 1, 0, 5, -1, -1, -1, 5, []⟩ : Nd)) := Z24
              have GD := RowAt.grown GD q24 (by omega)
              have W := below_row W q24 W.size (by omega)
              have TW := Z24
              clear Z24 q24 z24
              go_wp2_with (refine wp_want rfl fun K hK => ?_; first | (refine wp_rw_load (P := Try.prog) GD Try.underlying25 rfl infoNd_size rfl rfl ?_; refine hK _ _ ?_; clear hK K) | (refine wp_rw_load (P := Try.prog) TW Try.underlying25 rfl infoNd_size rfl rfl ?_; refine hK _ _ ?_; clear hK K) | refine wp_rw_storeP (P := Try.prog) (s := 2) (v := .int .i64 9) TW infoI_size (by decide) (by intro u hu; simp [Value.cells] at hu; rw [hu]; rfl) rfl rfl rfl ?_)
              intro w25 Z25 q25 z25
              refine hK _ _ ?_
              clear hK K
              have Z25 : RowAt w25 _ 25 (ndA (⟨1, 1, 9, 5, -1, -1, -1, 5, []⟩ : Nd)) := Z25
              have GD := RowAt.grown GD q25 (by omega)
              have W := below_row W q25 W.size (by omega)
              have TW := Z25
              clear Z25 q25 z25
              have hsl : ∀ W : World, (Instr.sliceAt 9 (str (List.replicate 33 120)) none (some (.int .i64 32)) none).run Try.prog W = .ok (str (List.replicate 32 120)) W := fun W => by kernel_rfl
              have nnSG := W.size
              go_wp2_with (refine wp_want rfl fun K hK => ?_; first | (refine wp_rw_load (P := Try.prog) GD Try.underlying25 rfl infoNd_size rfl rfl ?_; refine hK _ _ ?_; clear hK K) | (refine wp_rw_load (P := Try.prog) TW Try.underlying25 rfl infoNd_size rfl rfl ?_; refine hK _ _ ?_; clear hK K) | refine wp_rw_alloc (P := Try.prog) (t := 25) (ndV zNd) infoNd_zero rfl ?_)
              intro w26 Y26 c26 s26
              refine hK _ _ ?_
              clear hK K
              go_wp2_with (refine wp_want rfl fun K hK => ?_; first | (refine wp_rw_load (P := Try.prog) GD Try.underlying25 rfl infoNd_size rfl rfl ?_; refine hK _ _ ?_; clear hK K) | (refine wp_rw_load (P := Try.prog) TW Try.underlying25 rfl infoNd_size rfl rfl ?_; refine hK _ _ ?_; clear hK K) | refine wp_rw_store (P := Try.prog) (cs := ndA gd) Y26 infoNd_size rfl (ndA_all _) rfl rfl rfl ?_)
              intro w27 Z27 g27 z27
              refine hK _ _ ?_
              clear hK K
              have d27 := below_row c26 g27 c26.size (Nat.le_refl _)
              have lSGGD := RowAt.lt GD
              have lSGTW := RowAt.lt TW
              have GD := RowAt.later GD d27
              have TW := RowAt.later TW d27
              have W := W.trans (d27.mono W.size)
              have SG := Z27
              clear Y26 c26 s26 Z27 g27 z27 d27
              go_wp2_with (refine wp_want rfl fun K hK => ?_; first | (refine wp_rw_load (P := Try.prog) GD Try.underlying25 rfl infoNd_size rfl rfl ?_; refine hK _ _ ?_; clear hK K) | (refine wp_rw_load (P := Try.prog) TW Try.underlying25 rfl infoNd_size rfl rfl ?_; refine hK _ _ ?_; clear hK K) | (refine wp_rw_load (P := Try.prog) SG Try.underlying25 rfl infoNd_size rfl rfl ?_; refine hK _ _ ?_; clear hK K) | refine wp_rw_storeP (P := Try.prog) (s := 8) (v := str (List.replicate 32 120)) SG infoStr_size (by decide) (by intro u hu; simp [Value.cells] at hu; rw [hu]; rfl) rfl rfl rfl ?_)
              intro w28 Z28 q28 z28
              refine hK _ _ ?_
              clear hK K
              have Z28 : RowAt w28 _ 25 (ndA (⟨1, 1, 0, -1, -1, -1, -1, -1, (List.replicate 32 120)⟩ : Nd)) := Z28
              have GD := RowAt.grown GD q28 (by omega)
              have TW := RowAt.grown TW q28 (by omega)
              have W := below_row W q28 W.size (by omega)
              have SG := Z28
              clear Z28 q28 z28
              go_wp2_with (refine wp_want rfl fun K hK => ?_; first | (refine wp_rw_load (P := Try.prog) GD Try.underlying25 rfl infoNd_size rfl rfl ?_; refine hK _ _ ?_; clear hK K) | (refine wp_rw_load (P := Try.prog) TW Try.underlying25 rfl infoNd_size rfl rfl ?_; refine hK _ _ ?_; clear hK K) | (refine wp_rw_load (P := Try.prog) SG Try.underlying25 rfl infoNd_size rfl rfl ?_; refine hK _ _ ?_; clear hK K) | refine wp_rw_storeP (P := Try.prog) (s := 2) (v := .int .i64 32) SG infoI_size (by decide) (by intro u hu; simp [Value.cells] at hu; rw [hu]; rfl) rfl rfl rfl ?_)
              intro w29 Z29 q29 z29
              refine hK _ _ ?_
              clear hK K
              have Z29 : RowAt w29 _ 25 (ndA (⟨1, 1, 32, -1, -1, -1, -1, -1, (List.replicate 32 120)⟩ : Nd)) := Z29
              have GD := RowAt.grown GD q29 (by omega)
              have TW := RowAt.grown TW q29 (by omega)
              have W := below_row W q29 W.size (by omega)
              have SG := Z29
              clear Z29 q29 z29
              clear hsl
              have hP3 := fun w => ndPut_any 3 (⟨1, 1, 32, -1, -1, -1, -1, -1, (List.replicate 32 120)⟩ : Nd) w sg_ok
              have hP1 := fun w => ndPut_any 1 (⟨258, 3, 1120, 1, -1, 199, -1, 4, []⟩ : Nd) w ff_ok
              have hM1 := fun w => ndMay_any 1 (⟨1, 1, 9, 5, -1, -1, -1, 5, []⟩ : Nd) w tw_ok
              rw [decide_eq_true sg_may, show ndK 3 (⟨1, 1, 32, -1, -1, -1, -1, -1, (List.replicate 32 120)⟩ : Nd) = 3 from if_pos sg_may] at hP3
              rw [decide_eq_true ff_may, show ndK 1 (⟨258, 3, 1120, 1, -1, 199, -1, 4, []⟩ : Nd) = 1 from if_pos ff_may] at hP1
              rw [decide_eq_false tw_may] at hM1
              have sb := sg_bytes
              have fb := ff_bytes
              have sl := sg_len
              have fl := ff_len
              generalize ndBody 3 (⟨1, 1, 32, -1, -1, -1, -1, -1, (List.replicate 32 120)⟩ : Nd) = SB at *
              generalize ndBody 1 (⟨258, 3, 1120, 1, -1, 199, -1, 4, []⟩ : Nd) = FB at *
              obtain ⟨s20, s52, s53⟩ := sb
              have fbh := Lib.hid fb
              clear fb
              have slh := Lib.hid sl
              have flh := Lib.hid fl
              clear sl fl
              go_wp2_with (refine wp_want rfl fun K hK => ?_; first | (refine wp_rw_load (P := Try.prog) GD Try.underlying25 rfl infoNd_size rfl rfl ?_; refine hK _ _ ?_; clear hK K) | (refine wp_rw_load (P := Try.prog) TW Try.underlying25 rfl infoNd_size rfl rfl ?_; refine hK _ _ ?_; clear hK K) | (refine wp_rw_load (P := Try.prog) SG Try.underlying25 rfl infoNd_size rfl rfl ?_; refine hK _ _ ?_; clear hK K))
              refine (hP3 _).mono ?_
              rintro e w30 ⟨rfl, b30⟩
              have GD := RowAt.later GD b30
              have TW := RowAt.later TW b30
              have SG := RowAt.later SG b30
              have W := W.trans (b30.mono W.size)
              clear b30
              clear hP3
              have nnBB := W.size
              go_wp2_with (refine wp_want rfl fun K hK => ?_; first | (refine wp_rw_load (P := Try.prog) GD Try.underlying25 rfl infoNd_size rfl rfl ?_; refine hK _ _ ?_; clear hK K) | (refine wp_rw_load (P := Try.prog) TW Try.underlying25 rfl infoNd_size rfl rfl ?_; refine hK _ _ ?_; clear hK K) | (refine wp_rw_load (P := Try.prog) SG Try.underlying25 rfl infoNd_size rfl rfl ?_; refine hK _ _ ?_; clear hK K) | refine wp_blk_alloc rfl ?_)
              intro w31 Y31 c31 s31
              refine hK _ _ ?_
              clear hK K
              go_wp2_with (refine wp_want rfl fun K hK => ?_; first | (refine wp_rw_load (P := Try.prog) GD Try.underlying25 rfl infoNd_size rfl rfl ?_; refine hK _ _ ?_; clear hK K) | (refine wp_rw_load (P := Try.prog) TW Try.underlying25 rfl infoNd_size rfl rfl ?_; refine hK _ _ ?_; clear hK K) | (refine wp_rw_load (P := Try.prog) SG Try.underlying25 rfl infoNd_size rfl rfl ?_; refine hK _ _ ?_; clear hK K) | refine wp_blk_store rfl rfl rfl slh.out Y31 ?_)
              intro w32 Z32 g32 z32
              refine hK _ _ ?_
              clear hK K
              have d32 := below_row c31 g32 c31.size (Nat.le_refl _)
              have lBBGD := RowAt.lt GD
              have lBBTW := RowAt.lt TW
              have lBBSG := RowAt.lt SG
              have GD := RowAt.later GD d32
              have TW := RowAt.later TW d32
              have SG := RowAt.later SG d32
              have W := W.trans (d32.mono W.size)
              have BB := Z32
              clear Y31 c31 s31 Z32 g32 z32 d32
              have nnFF := W.size
              go_wp2_with (refine wp_want rfl fun K hK => ?_; first | (refine wp_rw_load (P := Try.prog) GD Try.underlying25 rfl infoNd_size rfl rfl ?_; refine hK _ _ ?_; clear hK K) | (refine wp_rw_load (P := Try.prog) TW Try.underlying25 rfl infoNd_size rfl rfl ?_; refine hK _ _ ?_; clear hK K) | (refine wp_rw_load (P := Try.prog) SG Try.underlying25 rfl infoNd_size rfl rfl ?_; refine hK _ _ ?_; clear hK K) | (refine wp_blk_load rfl rfl BB ?_; refine hK _ _ ?_; clear hK K) | refine wp_rw_alloc (P := Try.prog) (t := 25) (ndV zNd) infoNd_zero rfl ?_)
              intro w33 Y33 c33 s33
              refine hK _ _ ?_
              clear hK K
              go_wp2_with (refine wp_want rfl fun K hK => ?_; first | (refine wp_rw_load (P := Try.prog) GD Try.underlying25 rfl infoNd_size rfl rfl ?_; refine hK _ _ ?_; clear hK K) | (refine wp_rw_load (P := Try.prog) TW Try.underlying25 rfl infoNd_size rfl rfl ?_; refine hK _ _ ?_; clear hK K) | (refine wp_rw_load (P := Try.prog) SG Try.underlying25 rfl infoNd_size rfl rfl ?_; refine hK _ _ ?_; clear hK K) | (refine wp_blk_load rfl rfl BB ?_; refine hK _ _ ?_; clear hK K) | refine wp_rw_store (P := Try.prog) (cs := ndA gd) Y33 infoNd_size rfl (ndA_all _) rfl rfl rfl ?_)
              intro w34 Z34 g34 z34
              refine hK _ _ ?_
              clear hK K
              have d34 := below_row c33 g34 c33.size (Nat.le_refl _)
              have lFFGD := RowAt.lt GD
              have lFFTW := RowAt.lt TW
              have lFFSG := RowAt.lt SG
              have lFFBB := BB.lt
              have GD := RowAt.later GD d34
              have TW := RowAt.later TW d34
              have SG := RowAt.later SG d34
              have BB := BB.later d34
              have W := W.trans (d34.mono W.size)
              have FF := Z34
              clear Y33 c33 s33 Z34 g34 z34 d34
              go_wp2_with (refine wp_want rfl fun K hK => ?_; first | (refine wp_rw_load (P := Try.prog) GD Try.underlying25 rfl infoNd_size rfl rfl ?_; refine hK _ _ ?_; clear hK K) | (refine wp_rw_load (P := Try.prog) TW Try.underlying25 rfl infoNd_size rfl rfl ?_; refine hK _ _ ?_; clear hK K) | (refine wp_rw_load (P := Try.prog) SG Try.underlying25 rfl infoNd_size rfl rfl ?_; refine hK _ _ ?_; clear hK K) | (refine wp_blk_load rfl rfl BB ?_; refine hK _ _ ?_; clear hK K) | (refine wp_rw_load (P := Try.prog) FF Try.underlying25 rfl infoNd_size rfl rfl ?_; refine hK _ _ ?_; clear hK K) | refine wp_rw_storeP (P := Try.prog) (s := 0) (v := .int .u32 258) FF infoU32_size (by decide) (by intro u hu; simp [Value.cells] at hu; rw [hu]; rfl) rfl rfl rfl ?_)
              intro w35 Z35 q35 z35
              refine hK _ _ ?_
              clear hK K
              have Z35 : RowAt w35 _ 25 (ndA (⟨258, 1, 0, -1, -1, -1, -1, -1, []⟩ : Nd)) := Z35
              have GD := RowAt.grown GD q35 (by omega)
              have TW := RowAt.grown TW q35 (by omega)
              have SG := RowAt.grown SG q35 (by omega)
              have BB := BB.grown q35 (by omega)
              have W := below_row W q35 W.size (by omega)
              have FF := Z35
              clear Z35 q35 z35
              go_wp2_with (refine wp_want rfl fun K hK => ?_; first | (refine wp_rw_load (P := Try.prog) GD Try.underlying25 rfl infoNd_size rfl rfl ?_; refine hK _ _ ?_; clear hK K) | (refine wp_rw_load (P := Try.prog) TW Try.underlying25 rfl infoNd_size rfl rfl ?_; refine hK _ _ ?_; clear hK K) | (refine wp_rw_load (P := Try.prog) SG Try.underlying25 rfl infoNd_size rfl rfl ?_; refine hK _ _ ?_; clear hK K) | (refine wp_blk_load rfl rfl BB ?_; refine hK _ _ ?_; clear hK K) | (refine wp_rw_load (P := Try.prog) FF Try.underlying25 rfl infoNd_size rfl rfl ?_; refine hK _ _ ?_; clear hK K) | refine wp_rw_storeP (P := Try.prog) (s := 1) (v := .int .i64 3) FF infoI_size (by decide) (by intro u hu; simp [Value.cells] at hu; rw [hu]; rfl) rfl rfl rfl ?_)
              intro w36 Z36 q36 z36
              refine hK _ _ ?_
              clear hK K
              have Z36 : RowAt w36 _ 25 (ndA (⟨258, 3, 0, -1, -1, -1, -1, -1, []⟩ : Nd)) := Z36
              have GD := RowAt.grown GD q36 (by omega)
              have TW := RowAt.grown TW q36 (by omega)
              have SG := RowAt.grown SG q36 (by omega)
              have BB := BB.grown q36 (by omega)
              have W := below_row W q36 W.size (by omega)
              have FF := Z36
              clear Z36 q36 z36
              go_wp2_with (refine wp_want rfl fun K hK => ?_; first | (refine wp_rw_load (P := Try.prog) GD Try.underlying25 rfl infoNd_size rfl rfl ?_; refine hK _ _ ?_; clear hK K) | (refine wp_rw_load (P := Try.prog) TW Try.underlying25 rfl infoNd_size rfl rfl ?_; refine hK _ _ ?_; clear hK K) | (refine wp_rw_load (P := Try.prog) SG Try.underlying25 rfl infoNd_size rfl rfl ?_; refine hK _ _ ?_; clear hK K) | (refine wp_blk_load rfl rfl BB ?_; refine hK _ _ ?_; clear hK K) | (refine wp_rw_load (P := Try.prog) FF Try.underlying25 rfl infoNd_size rfl rfl ?_; refine hK _ _ ?_; clear hK K) | refine wp_rw_storeP (P := Try.prog) (s := 2) (v := .int .i64 1120) FF infoI_size (by decide) (by intro u hu; simp [Value.cells] at hu; rw [hu]; rfl) rfl rfl rfl ?_)
              intro w37 Z37 q37 z37
              refine hK _ _ ?_
              clear hK K
              have Z37 : RowAt w37 _ 25 (ndA (⟨258, 3, 1120, -1, -1, -1, -1, -1, []⟩ : Nd)) := Z37
              have GD := RowAt.grown GD q37 (by omega)
              have TW := RowAt.grown TW q37 (by omega)
              have SG := RowAt.grown SG q37 (by omega)
              have BB := BB.grown q37 (by omega)
              have W := below_row W q37 W.size (by omega)
              have FF := Z37
              clear Z37 q37 z37
              go_wp2_with (refine wp_want rfl fun K hK => ?_; first | (refine wp_rw_load (P := Try.prog) GD Try.underlying25 rfl infoNd_size rfl rfl ?_; refine hK _ _ ?_; clear hK K) | (refine wp_rw_load (P := Try.prog) TW Try.underlying25 rfl infoNd_size rfl rfl ?_; refine hK _ _ ?_; clear hK K) | (refine wp_rw_load (P := Try.prog) SG Try.underlying25 rfl infoNd_size rfl rfl ?_; refine hK _ _ ?_; clear hK K) | (refine wp_blk_load rfl rfl BB ?_; refine hK _ _ ?_; clear hK K) | (refine wp_rw_load (P := Try.prog) FF Try.underlying25 rfl infoNd_size rfl rfl ?_; refine hK _ _ ?_; clear hK K) | refine wp_rw_storeP (P := Try.prog) (s := 3) (v := .agg #[.int .i64 1, .int .i64 (-1), .int .i64 199, .int .i64 (-1)]) FF info4_size (by decide) (by intro u hu; simp [Value.cells] at hu; rcases hu with rfl | rfl | rfl | rfl <;> rfl) rfl rfl rfl ?_)
              intro w38 Z38 q38 z38
              refine hK _ _ ?_
              clear hK K
              have Z38 : RowAt w38 _ 25 (ndA (⟨258, 3, 1120, 1, -1, 199, -1, -1, []⟩ : Nd)) := Z38
              have GD := RowAt.grown GD q38 (by omega)
              have TW := RowAt.grown TW q38 (by omega)
              have SG := RowAt.grown SG q38 (by omega)
              have BB := BB.grown q38 (by omega)
              have W := below_row W q38 W.size (by omega)
              have FF := Z38
              clear Z38 q38 z38
              go_wp2_with (refine wp_want rfl fun K hK => ?_; first | (refine wp_rw_load (P := Try.prog) GD Try.underlying25 rfl infoNd_size rfl rfl ?_; refine hK _ _ ?_; clear hK K) | (refine wp_rw_load (P := Try.prog) TW Try.underlying25 rfl infoNd_size rfl rfl ?_; refine hK _ _ ?_; clear hK K) | (refine wp_rw_load (P := Try.prog) SG Try.underlying25 rfl infoNd_size rfl rfl ?_; refine hK _ _ ?_; clear hK K) | (refine wp_blk_load rfl rfl BB ?_; refine hK _ _ ?_; clear hK K) | (refine wp_rw_load (P := Try.prog) FF Try.underlying25 rfl infoNd_size rfl rfl ?_; refine hK _ _ ?_; clear hK K) | refine wp_rw_storeP (P := Try.prog) (s := 7) (v := .int .i64 4) FF infoI_size (by decide) (by intro u hu; simp [Value.cells] at hu; rw [hu]; rfl) rfl rfl rfl ?_)
              intro w39 Z39 q39 z39
              refine hK _ _ ?_
              clear hK K
              have Z39 : RowAt w39 _ 25 (ndA (⟨258, 3, 1120, 1, -1, 199, -1, 4, []⟩ : Nd)) := Z39
              have GD := RowAt.grown GD q39 (by omega)
              have TW := RowAt.grown TW q39 (by omega)
              have SG := RowAt.grown SG q39 (by omega)
              have BB := BB.grown q39 (by omega)
              have W := below_row W q39 W.size (by omega)
              have FF := Z39
              clear Z39 q39 z39
              go_wp2_with (refine wp_want rfl fun K hK => ?_; first | (refine wp_rw_load (P := Try.prog) GD Try.underlying25 rfl infoNd_size rfl rfl ?_; refine hK _ _ ?_; clear hK K) | (refine wp_rw_load (P := Try.prog) TW Try.underlying25 rfl infoNd_size rfl rfl ?_; refine hK _ _ ?_; clear hK K) | (refine wp_rw_load (P := Try.prog) SG Try.underlying25 rfl infoNd_size rfl rfl ?_; refine hK _ _ ?_; clear hK K) | (refine wp_blk_load rfl rfl BB ?_; refine hK _ _ ?_; clear hK K) | (refine wp_rw_load (P := Try.prog) FF Try.underlying25 rfl infoNd_size rfl rfl ?_; refine hK _ _ ?_; clear hK K))
              refine (hP1 _).mono ?_
              rintro e w40 ⟨rfl, b40⟩
              have GD := RowAt.later GD b40
              have TW := RowAt.later TW b40
              have SG := RowAt.later SG b40
              have BB := BB.later b40
              have FF := RowAt.later FF b40
              have W := W.trans (b40.mono W.size)
              clear b40
              clear hP1
              have nnCC := W.size
              go_wp2_with (refine wp_want rfl fun K hK => ?_; first | (refine wp_rw_load (P := Try.prog) GD Try.underlying25 rfl infoNd_size rfl rfl ?_; refine hK _ _ ?_; clear hK K) | (refine wp_rw_load (P := Try.prog) TW Try.underlying25 rfl infoNd_size rfl rfl ?_; refine hK _ _ ?_; clear hK K) | (refine wp_rw_load (P := Try.prog) SG Try.underlying25 rfl infoNd_size rfl rfl ?_; refine hK _ _ ?_; clear hK K) | (refine wp_blk_load rfl rfl BB ?_; refine hK _ _ ?_; clear hK K) | (refine wp_rw_load (P := Try.prog) FF Try.underlying25 rfl infoNd_size rfl rfl ?_; refine hK _ _ ?_; clear hK K) | refine wp_blk_alloc rfl ?_)
              intro w41 Y41 c41 s41
              refine hK _ _ ?_
              clear hK K
              go_wp2_with (refine wp_want rfl fun K hK => ?_; first | (refine wp_rw_load (P := Try.prog) GD Try.underlying25 rfl infoNd_size rfl rfl ?_; refine hK _ _ ?_; clear hK K) | (refine wp_rw_load (P := Try.prog) TW Try.underlying25 rfl infoNd_size rfl rfl ?_; refine hK _ _ ?_; clear hK K) | (refine wp_rw_load (P := Try.prog) SG Try.underlying25 rfl infoNd_size rfl rfl ?_; refine hK _ _ ?_; clear hK K) | (refine wp_blk_load rfl rfl BB ?_; refine hK _ _ ?_; clear hK K) | (refine wp_rw_load (P := Try.prog) FF Try.underlying25 rfl infoNd_size rfl rfl ?_; refine hK _ _ ?_; clear hK K) | refine wp_blk_store rfl rfl rfl flh.out Y41 ?_)
              intro w42 Z42 g42 z42
              refine hK _ _ ?_
              clear hK K
              have d42 := below_row c41 g42 c41.size (Nat.le_refl _)
              have lCCGD := RowAt.lt GD
              have lCCTW := RowAt.lt TW
              have lCCSG := RowAt.lt SG
              have lCCBB := BB.lt
              have lCCFF := RowAt.lt FF
              have GD := RowAt.later GD d42
              have TW := RowAt.later TW d42
              have SG := RowAt.later SG d42
              have BB := BB.later d42
              have FF := RowAt.later FF d42
              have W := W.trans (d42.mono W.size)
              have CC := Z42
              clear Y41 c41 s41 Z42 g42 z42 d42
              go_wp2_with (refine wp_want rfl fun K hK => ?_; first | (refine wp_rw_load (P := Try.prog) GD Try.underlying25 rfl infoNd_size rfl rfl ?_; refine hK _ _ ?_; clear hK K) | (refine wp_rw_load (P := Try.prog) TW Try.underlying25 rfl infoNd_size rfl rfl ?_; refine hK _ _ ?_; clear hK K) | (refine wp_rw_load (P := Try.prog) SG Try.underlying25 rfl infoNd_size rfl rfl ?_; refine hK _ _ ?_; clear hK K) | (refine wp_blk_load rfl rfl BB ?_; refine hK _ _ ?_; clear hK K) | (refine wp_rw_load (P := Try.prog) FF Try.underlying25 rfl infoNd_size rfl rfl ?_; refine hK _ _ ?_; clear hK K) | (refine wp_blk_load rfl rfl CC ?_; refine hK _ _ ?_; clear hK K))
              refine (hM1 _).mono ?_
              rintro e w43 ⟨rfl, b43⟩
              have GD := RowAt.later GD b43
              have TW := RowAt.later TW b43
              have SG := RowAt.later SG b43
              have BB := BB.later b43
              have FF := RowAt.later FF b43
              have CC := CC.later b43
              have W := W.trans (b43.mono W.size)
              clear b43
              clear hM1
              have y20 := byteAt BB 20 (by decide) 32 s20
              have y52 := byteAt BB 52 (by decide) 120 s52
              have y53 := byteAt BB 53 (by decide) 0 s53
              have hr : Rd w43 (.slice (some ⟨w40.heap.size, 1, none⟩) 21 56) (bs [0, 0, 1, 2, 0, 3, 0, 0, 4, 96, 0, 2, 0, 0, 0, 200, 0, 0, 0, 5, 0]) := by
                have := CC.rd (i := 0) (n := 21) (by decide)
                rw [List.drop_zero, fbh.out] at this
                exact this
              have hcv := run_string_of (P := Try.prog) hr 37 5 9 Try.underlying37 Try.underlying5 Try.underlying9
              clear hr
              go_wp2_with fail
              go_ret
              exact ⟨rfl, W⟩
end Go.Proofs.Ytgeiafijibgdhaa.Cl
