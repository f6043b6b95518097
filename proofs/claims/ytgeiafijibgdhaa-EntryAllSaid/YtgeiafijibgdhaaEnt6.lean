/- The reference's body, PutEntry. -/
import Derived.Test.YtgeiafijibgdhaaEntB
import Derived.Test.YtgeiafijibgdhaaIno4
import Derived.Lib.AppendStr
set_option linter.unusedVariables false
set_option linter.unusedSimpArgs false
namespace Go.Proofs.Ytgeiafijibgdhaa.Cl
open Go Go.Proofs Go.RowKit Fl Rely

/-! ### body -/
def pad56 (l : List UInt8) (i : Nat) : List UInt8 := l.take i ++ Z56.drop i
theorem pad56_length {l : List UInt8} (h : l.length ≤ 56) (i : Nat) (hi : i ≤ l.length) : (pad56 l i).length = 56 := by
  unfold pad56
  rw [List.length_append, List.length_take, List.length_drop, Z56_length]
  omega
theorem pad56_set {l : List UInt8} (i : Nat) (hi : i < l.length) (h : l.length ≤ 56) : (pad56 l i).set i l[i] = pad56 l (i + 1) := by
  unfold pad56
  have e : Z56.drop i = 0 :: Z56.drop (i + 1) := by
    rw [List.drop_eq_getElem_cons (by rw [Z56_length]; omega)]
    congr 1
    exact List.getElem_replicate _
  have hl : (l.take i).length = i := by rw [List.length_take]; omega
  rw [e, List.set_append_right _ _ (by omega), hl, Nat.sub_self, List.set_cons_zero, take_snoc l i hi, List.append_assoc]
  rfl
set_option maxRecDepth 100000 in
set_option maxHeartbeats 2000000 in
theorem body_any (k : Int) (v : Value) (l : List UInt8) (w : World) (hv : Rd w v (bs l)) (hl : l.length ≤ 56) :
    Calls Try.prog 47 #[.int .i64 k, v] w fun e w' => e = .returned (blkV k (l ++ Z56.drop l.length)) ∧ Below w.heap.size w w' := by
  obtain ⟨a, cap, rfl, hc1, hc2, hcell, hnil⟩ := id hv
  rw [bs_length] at *
  go_enter Try.func47, Try.ntmps47
  go_wp2_with (refine wp_want rfl fun K hK => ?_; refine wp_blk_alloc rfl ?_)
  intro w1 R1 b1 s1
  refine hK _ _ ?_
  clear hK K
  have n1 := b1.size
  go_wp2_with (refine wp_want rfl fun K hK => ?_; first | (refine wp_blk_build rfl rfl ?_; refine hK _ _ ?_; clear hK K) | refine wp_blk_alloc rfl ?_)
  intro w2 Y2 c2 s2
  refine hK _ _ ?_
  clear hK K
  go_wp2_with (refine wp_want rfl fun K hK => ?_; refine wp_blk_store rfl rfl rfl Z56_length Y2 ?_)
  intro w3 X3 g3 z3
  refine hK _ _ ?_
  clear hK K
  have d3 := below_row c2 g3 c2.size (Nat.le_refl _)
  have R3 := R1.later d3
  have W := b1.trans (d3.mono n1)
  have hlt : w.heap.size < w1.heap.size := s1
  clear Y2 c2 s2 g3 z3 d3 R1
  have X0 : BlkAt w3 w1.heap.size k (pad56 l 0) := X3
  clear X3
  go_wp2_with fail
  go_loopw [6] (fun i wr => ∃ j : Nat, j ≤ l.length ∧ i = .int .i64 (j : Int) ∧ BlkAt wr w1.heap.size k (pad56 l j) ∧ BlkAt wr w.heap.size 0 Z56 ∧ Below w.heap.size w wr) (fun i _ => l.length - (intOf i).toNat)
  case atStart => exact ⟨0, Nat.zero_le _, rfl, X0, R3, W⟩
  case round =>
    obtain ⟨j, hj, rfl, X, R, hb⟩ := hrel
    by_cases hlt' : j < l.length
    · have hlI : (j : Int) < (l.length : Int) := by omega
      have h56 : (j : Int) < 56 := by omega
      obtain ⟨ad, rfl, hc⟩ := hcell j (by rw [bs_length]; exact hlt')
      have hc := cell_later hb hc
      have hset := pad56_set j hlt' hl
      have hpl := pad56_length hl j hj
      rw [show (bs l)[j]'(by rw [bs_length]; exact hlt') = u8 l[j] by simp [bs]] at hc
      generalize l[j] = x at *
      obtain ⟨zx, kx⟩ : ∃ z, wr.cell? ⟨w1.heap.size, 1 + j, none⟩ = some z := ⟨_, X.byte (i := j) (by omega)⟩
      have fx := X.frozen (i := 1 + j)
      obtain ⟨X2, g2, z2⟩ := X.setByte j x (.int .u8 (x.toNat : Nat)) rfl
      rw [hset] at X2
      have R2 := R.grown g2 (by omega)
      have hb2 := below_row hb g2 hb.size (by omega)
      clear hset hpl hv hnil g2 z2
      generalize pad56 l j = pj at *
      go_wp2_with fail
      go_roundw
      case rel => exact ⟨j + 1, hlt', by go_num, X2, R2, hb2⟩
      case measure => simp only [intOf]; omega
    · have hlI : ¬ (j : Int) < (l.length : Int) := by omega
      have hjl : j = l.length := by omega
      have hp : pad56 l j = l ++ Z56.drop l.length := by unfold pad56; rw [hjl, List.take_of_length_le (Nat.le_refl _)]
      rw [hp] at X
      clear hp hjl
      go_wp2_with (refine wp_want rfl fun K hK => ?_; first | (refine wp_blk_load rfl rfl X ?_; refine hK _ _ ?_; clear hK K) | refine wp_blk_store rfl rfl rfl X.1 R ?_)
      intro w5 R5 g5 z5
      refine hK _ _ ?_
      clear hK K
      have hb5 := below_row hb g5 hb.size (Nat.le_refl _)
      go_wp2_with fail
      refine bodyPost_ret (results_blk rfl rfl R5) rfl ⟨rfl, hb5⟩

/-! ### PutEntry -/
theorem new_u8 {b : UInt8} {x : Int} (h : x = (b.toNat : Int)) (w : World) : Rd (w.alloc (.cells #[.int .u8 x] 5)) (.slice (some ⟨w.heap.size, 0, none⟩) 1 1) (bs [b]) := by
  subst h
  exact Rd.new w #[u8 b] 5 (0, 0) 1 rfl (by simp)
theorem wp_app_str {w : World} {o : Oper} {a : Act} {K : Act → World → Prop} {Q : Exit → Act → World → Prop} (B : Nat) (v : Value) (l l' : List UInt8) {s x : Operand} (hl : l.length + l'.length ≤ 1000000) (hown : OB w B v l) (hB : B ≤ w.heap.size)
    (ho : o.op = .call { callee := .builtin .append, args := #[s, x], argTypes := #[37, 9] }) (hs : a.eval s = v) (hx : a.eval x = str l')
    (h : ∀ v' w', OB w' B v' (l ++ l') → w.grownBy w' v.ownBlock → K (a.put o.dst v') w') : o.wp Try.prog a w K Q := by
  obtain ⟨i5, hi5, hz5, hs5, hb5⟩ := info_parts info5
  obtain ⟨v', w', hr, h1, h2, _⟩ := Lib.run_append_own_string (P := Try.prog) w B 37 9 o.type 5 i5 Try.underlying37 Try.underlying9 hi5 hz5 hs5 hb5 v l.length (bs l) hown ⟨l'.toArray⟩ (by rw [str_size]; unfold maxLen; omega) (by rw [str_size]; omega) hB
  refine wp_append_run ho hs hx hr (h v' w' ?_ h2)
  unfold OB
  rw [str_size] at h1
  rw [List.length_append]
  have e : Lib.strCells ⟨l'.toArray⟩ = bs l' := by simp [Lib.strCells, bs, u8]
  rw [e] at h1
  rw [show bs (l ++ l') = bs l ++ bs l' from List.map_append]
  exact h1

set_option maxRecDepth 100000 in
set_option maxHeartbeats 4000000 in
theorem refPutEntry_any (n : Nm) (w : World) (ok : NmOk n) :
    Calls Try.prog 24 #[nmV n] w fun e w' => e = .returned (.tuple #[blkV (entK n) (entBody n), .bool (mayNm n)]) ∧ Below w.heap.size w w' := by
  have hM := fun w => refMayEntry_any n w ok
  cases hm : mayNm n
  · rw [hm] at hM
    unfold entK entBody
    rw [hm]
    go_enter Try.func24, Try.ntmps24
    go_wp2_with (refine wp_want rfl fun K hK => ?_; refine wp_rw_box (P := Try.prog) (t := 43) (nmA n) rfl rfl ?_)
    intro w1 A1 b1 s1
    refine hK _ _ ?_
    clear hK K
    go_wp2_with (refine wp_want rfl fun K hK => ?_; refine wp_blk_alloc rfl ?_)
    intro w2 B2 b2 s2
    refine hK _ _ ?_
    clear hK K
    have W := b1.trans (b2.mono b1.size)
    have A2 := RowAt.later A1 b2
    go_wp2_with (refine wp_want rfl fun K hK => ?_; refine wp_rw_load (P := Try.prog) A2 Try.underlying43 rfl infoNm_size rfl rfl ?_; refine hK _ _ ?_; clear hK K)
    refine (hM _).mono ?_
    rintro e w3 ⟨rfl, b3⟩
    have W := W.trans (b3.mono W.size)
    have B3 := B2.later b3
    go_wp2_with (refine wp_want rfl fun K hK => ?_; first | (refine wp_blk_build0 rfl ?_; refine hK _ _ ?_; clear hK K) | refine wp_blk_store rfl rfl rfl Z56_length B3 ?_)
    intro w4 B4 g4 z4
    refine hK _ _ ?_
    clear hK K
    have W := below_row W g4 W.size (by have := b1.size; omega)
    go_wp2_with fail
    refine bodyPost_ret (results_blk2 rfl rfl rfl B4) rfl ⟨rfl, W⟩
  · obtain ⟨hi, hn, hp1, hp2, hg1⟩ := mayNm_facts hm
    obtain ⟨hs1, hs2⟩ := mayName_len hn
    have hput := fun w => refPut_any n.a n.b n.c w ok.c.2
    have hpl := putID_length hi
    have hgu := ok.g.2
    rw [hm] at hM
    have hres : blkV (entK n) (entBody n) = blkV 6 (entB n ++ Z56.drop (entB n).length) := by unfold entK entBody; rw [hm]; rfl
    rw [hres]
    have hBl : (entB n).length ≤ 56 := by have := entB_length hm; omega
    have hBe : entB n = putID n.a n.b n.c ++ be 2 n.p.toNat ++ be 4 n.g.toNat ++ [UInt8.ofNat n.s.length] ++ n.s := by unfold entB midB; simp
    obtain ⟨a, b, c, s, p, g⟩ := n
    dsimp only at *
    clear hres hm ok
    generalize entB ⟨a, b, c, s, p, g⟩ = eb at *
    obtain ⟨pn, rfl⟩ : ∃ pn : Nat, p = (pn : Int) := ⟨p.toNat, by omega⟩
    obtain ⟨gn, rfl⟩ : ∃ gn : Nat, g = (gn : Int) := ⟨g.toNat, by omega⟩
    rw [Int.toNat_natCast, Int.toNat_natCast] at hBe
    have HBe := Lib.hid hBe
    have Hpl := Lib.hid hpl
    clear hBe hpl hi
    generalize putID a b c = pid at *
    have e1 : IntKind.u64.wrap (pn : Int) = (pn : Int) := IntWalk.u64_in _ (by omega)
    have e2 : IntKind.u64.wrap (gn : Int) = (gn : Int) := IntWalk.u64_in _ (by omega)
    go_enter Try.func24, Try.ntmps24
    go_wp2_with (refine wp_want rfl fun K hK => ?_; refine wp_rw_box (P := Try.prog) (t := 43) (nmA ⟨a, b, c, s, pn, gn⟩) rfl rfl ?_)
    intro w1 A1 b1 s1
    refine hK _ _ ?_
    clear hK K
    go_wp2_with (refine wp_want rfl fun K hK => ?_; refine wp_blk_alloc rfl ?_)
    intro w2 B2 b2 s2
    refine hK _ _ ?_
    clear hK K
    have W := b1.trans (b2.mono b1.size)
    have A2 := RowAt.later A1 b2
    go_wp2_with (refine wp_want rfl fun K hK => ?_; refine wp_rw_load (P := Try.prog) A2 Try.underlying43 rfl infoNm_size rfl rfl ?_; refine hK _ _ ?_; clear hK K)
    refine (hM _).mono ?_
    rintro e w3 ⟨rfl, b3⟩
    have W := W.trans (b3.mono W.size)
    have B3 := B2.later b3
    have A3 := RowAt.later A2 b3
    have hlt : w.heap.size < w1.heap.size := s1
    have hlt2 := B3.lt
    clear A1 A2 B2 b2 b3 s2
    go_wp2_with fail
    have A3d := A3.drew
    have W3 : Below w3.heap.size w3 w3.drew := (Below.refl _ _).drew
    refine Zig.wp_region_zig [(false, 0), (false, 1), (false, 3), (false, 4), (false, 5), (false, 8), (false, 9), (false, 10), (true, 2), (true, 6), (true, 7), (true, 11), (true, 12), (false, 13)] (fun W => NmAt W w.heap.size ⟨a, b, c, s, pn, gn⟩) (by kernel_rfl) (by kernel_rfl) A3d ?_
    simp only [Zig.sel, List.drop_succ_cons, List.drop_zero]
    generalize World.drew w3 = w4 at *
    haveI : Nonempty (Zig.Lt (fun W => NmAt W w.heap.size ⟨a, b, c, s, pn, gn⟩)) := ⟨⟨w4, A3d⟩⟩
    have i0 := fun x : Zig.Lt (fun W => NmAt W w.heap.size ⟨a, b, c, s, pn, gn⟩) => RowAt.cell x.2 0 (.int .i64 a) rfl
    have i1 := fun x : Zig.Lt (fun W => NmAt W w.heap.size ⟨a, b, c, s, pn, gn⟩) => RowAt.cell x.2 1 (.int .i64 b) rfl
    have i2 := fun x : Zig.Lt (fun W => NmAt W w.heap.size ⟨a, b, c, s, pn, gn⟩) => RowAt.cell x.2 2 (.int .u32 c) rfl
    have i4 := fun x : Zig.Lt (fun W => NmAt W w.heap.size ⟨a, b, c, s, pn, gn⟩) => RowAt.cell x.2 4 (.int .i64 pn) rfl
    have i5 := fun x : Zig.Lt (fun W => NmAt W w.heap.size ⟨a, b, c, s, pn, gn⟩) => RowAt.cell x.2 5 (.int .u32 gn) rfl
    repeat (refine Zig.zig_step (fun K hK => ?_); go_simp; refine hK _ ?_; clear hK K)
    refine Zig.zig_do rfl (fun K hK => ?_)
    unfold Oper.wp
    go_simp
    refine (hput _).mono ?_
    rintro e w5 ⟨u5, rfl, O5, b5⟩
    have A5 := RowAt.later A3d b5
    have W5 := W3.trans (b5.mono W3.size)
    have O5 := OB.mono O5 W3.size
    refine hK _ _ A5 ?_
    clear hK K
    refine Zig.zig_do rfl (fun K hK => ?_)
    unfold Oper.wp
    go_simp
    refine (high2_any pn w3.heap.size _ (by omega) W5.size).mono ?_
    rintro e w6 ⟨u6, rfl, O6, b6, _⟩
    have A6 := RowAt.later A5 b6
    have W6 := W5.trans (b6.mono W5.size)
    have O56 := OB.below O5 b6
    refine hK _ _ A6 ?_
    clear hK K
    refine Zig.zig_do rfl (fun K hK => ?_)
    refine wp_appO w3.heap.size _ _ pid (be 2 pn) (by rw [Hpl.out, be_length]; decide) O56 O6.rd W6.size rfl rfl rfl ?_
    intro u7 w7 O7 t7
    have W7 := W6.trans (t7.below W6.size O56.ge)
    have A7 : NmAt w7 w.heap.size ⟨a, b, c, s, pn, gn⟩ := RowAt.later A3 W7
    refine hK _ _ A7 ?_
    clear hK K
    refine Zig.zig_do rfl (fun K hK => ?_)
    unfold Oper.wp
    go_simp
    refine (high4_any gn w3.heap.size _ (by omega) W7.size).mono ?_
    rintro e w8 ⟨u8', rfl, O8, b8, _⟩
    have W8 := W7.trans (b8.mono W7.size)
    have A8 : NmAt w8 w.heap.size ⟨a, b, c, s, pn, gn⟩ := RowAt.later A3 W8
    have O78 := OB.below O7 b8
    refine hK _ _ A8 ?_
    clear hK K
    refine Zig.zig_do rfl (fun K hK => ?_)
    refine wp_appO w3.heap.size _ _ (pid ++ be 2 pn) (be 4 gn) (by rw [List.length_append, Hpl.out, be_length, be_length]; decide) O78 O8.rd W8.size rfl rfl rfl ?_
    intro u9 w9 O9 t9
    have W9 := W8.trans (t9.below W8.size O78.ge)
    have A9 : NmAt w9 w.heap.size ⟨a, b, c, s, pn, gn⟩ := RowAt.later A3 W9
    refine hK _ _ A9 ?_
    clear hK K
    repeat (refine Zig.zig_step (fun K hK => ?_); go_simp; refine hK _ ?_; clear hK K)
    refine Zig.zig_nil ?_
    clear i0 i1 i2 i4 i5 O5 O56 O6 O7 O78 O8 t7 t9 b5 b6 b8 A5 A6 A7 A8 A3d W3 W5 W6 W7 W8 e1 e2
    have W0 := W
    have e3 : IntKind.u8.wrap (s.length : Int) = (s.length : Int) := by rw [IntKind.wrap_u8]; omega
    have c9 : w9.cell? ⟨w.heap.size, 3, none⟩ = some (str s) := RowAt.cell A9 3 (str s) rfl
    have hdr := (Below.refl w9.heap.size w9).drew
    have c9d := cell_later hdr c9
    have hbyte := new_u8 (b := UInt8.ofNat s.length) (x := (s.length : Int)) (by rw [UInt8.toNat_ofNat']; omega)
    go_upto_region 4 with fail
    refine Zig.wp_region_zig [(false, 0), (false, 1), (false, 2), (false, 3), (false, 4), (false, 7), (false, 8), (true, 5), (true, 6), (true, 9), (true, 10), (true, 11), (false, 12)] (fun W => W.cell? ⟨w.heap.size, 3, none⟩ = some (str s)) (by kernel_rfl) (by kernel_rfl) c9d ?_
    simp only [Zig.sel, List.drop_succ_cons, List.drop_zero]
    generalize World.drew w9 = wa at *
    haveI : Nonempty (Zig.Lt (fun W => W.cell? ⟨w.heap.size, 3, none⟩ = some (str s))) := ⟨⟨wa, c9d⟩⟩
    have i3 := fun x : Zig.Lt (fun W => W.cell? ⟨w.heap.size, 3, none⟩ = some (str s)) => x.2
    repeat (refine Zig.zig_step (fun K hK => ?_); go_simp; refine hK _ ?_; clear hK K)
    refine Zig.zig_do rfl (fun K hK => ?_)
    unfold Oper.wp
    go_simp
    refine hK _ _ (cell_later (below_new wa _) c9d) ?_
    clear hK K
    refine Zig.zig_do rfl (fun K hK => ?_)
    refine wp_appO w3.heap.size _ _ (pid ++ be 2 pn ++ be 4 gn) [UInt8.ofNat s.length] (by rw [List.length_append, List.length_append, Hpl.out, be_length, be_length]; simp) ((OB.below O9 hdr).below (below_new wa _)) (hbyte wa) (Nat.le_trans (Nat.le_trans W9.size hdr.size) (le_new wa _)) rfl rfl rfl ?_
    intro ub wb Ob tb
    have bb := (W9.trans (hdr.mono W9.size)).trans (((below_new wa (.cells #[.int .u8 (s.length : Int)] 5)).mono (Nat.le_trans W9.size hdr.size)))
    have bb := bb.trans (tb.below bb.size (fun k hk => OB.ge O9 k hk))
    have cb : wb.cell? ⟨w.heap.size, 3, none⟩ = some (str s) := RowAt.cell (RowAt.later A3 bb) 3 (str s) rfl
    refine hK _ _ cb ?_
    clear hK K
    refine Zig.zig_do rfl (fun K hK => ?_)
    refine wp_app_str w3.heap.size _ _ s (by rw [List.length_append, List.length_append, List.length_append, Hpl.out, be_length, be_length]; simp; omega) Ob bb.size rfl rfl rfl ?_
    intro uc wc Oc gc
    have bc := bb.grown gc bb.size (fun k hk => OB.ge Ob k hk)
    have cc : wc.cell? ⟨w.heap.size, 3, none⟩ = some (str s) := RowAt.cell (RowAt.later A3 bc) 3 (str s) rfl
    refine hK _ _ cc ?_
    clear hK K
    rw [← HBe.out] at Oc
    refine Zig.zig_do rfl (fun K hK => ?_)
    unfold Oper.wp
    go_simp
    refine (body_any 6 _ eb _ Oc.rd hBl).mono ?_
    rintro e wd ⟨rfl, bd⟩
    have bd' := bc.trans (bd.mono bc.size)
    have cd : wd.cell? ⟨w.heap.size, 3, none⟩ = some (str s) := RowAt.cell (RowAt.later A3 bd') 3 (str s) rfl
    refine hK _ _ cd ?_
    clear hK K
    have Bd := B3.later bd'
    have W := W0.trans (bd'.mono W0.size)
    have heb56 : (eb ++ Z56.drop eb.length).length = 56 := by rw [List.length_append, List.length_drop, Z56_length]; omega
    refine Zig.zig_do rfl (fun K hK => ?_)
    refine wp_blk_store rfl rfl rfl heb56 Bd ?_
    intro we Be ge ze
    have ce : we.cell? ⟨w.heap.size, 3, none⟩ = some (str s) := RowAt.cell (RowAt.grown (RowAt.later A3 bd') ge (by omega)) 3 (str s) rfl
    refine hK _ _ ce ?_
    clear hK K
    have W := below_row W ge W.size (by omega)
    repeat (refine Zig.zig_step (fun K hK => ?_); go_simp; refine hK _ ?_; clear hK K)
    refine Zig.zig_nil ?_
    go_wp2_with fail
    refine bodyPost_ret (results_blk2 rfl rfl rfl Be) rfl ⟨rfl, W⟩
end Go.Proofs.Ytgeiafijibgdhaa.Cl
