/- entry.Take. -/
import Derived.Test.YtgeiafijibgdhaaEnt3
import Derived.Test.YtgeiafijibgdhaaZig
set_option linter.unusedVariables false
set_option linter.unusedSimpArgs false
namespace Go.Proofs.Ytgeiafijibgdhaa.Cl
open Go Go.Proofs Go.RowKit Fl Rely

def zNm : Nm := ⟨0, 0, 0, [], 0, 0⟩
theorem infoNm_zero : (Try.prog.info? 43).map (·.zero) = some (some (nmV zNm)) := by kernel_rfl
theorem nmA_all (n : Nm) : (nmA n).all (·.oneCell') = true := by simp [nmA, Value.oneCell']
theorem results_nm2 {fn : Func} {p q : Tmp} (h : fn.results = #[.cell p 43, .tmp q]) {tmps : Array Value} {w : World} {g : Nat} {n : Nm} {v : Value} (hp : tmps.getD p undef = .pointer (some ⟨g, 0, none⟩)) (hq : tmps.getD q undef = v) (hB : NmAt w g n) :
    (results fn tmps).run Try.prog w = .ok (.tuple #[nmV n, v]) w := by
  have hp' : tmps[p]?.getD undef = .pointer (some ⟨g, 0, none⟩) := by simpa using hp
  have hq' : tmps[q]?.getD undef = v := by simpa using hq
  simp [results, h, hp', hq', asAddr, run_rw_load (P := Try.prog) hB Try.underlying43 rfl infoNm_size]
theorem slice_body_from {g i : Nat} (hi : i < 56) (l : Int) (hl : l = (i : Int)) (w : World) :
    (Instr.sliceAt 26 (.pointer (some ⟨g, 1, none⟩)) (some (.int .i64 l)) none none).run Try.prog w = .ok (.slice (some ⟨g, 1 + i, none⟩) (56 - i) (56 - i)) w := by
  subst hl
  rw [run_sliceAt_array_l w 26 _ under56 .i64 _ (by omega) (by rw [len56]; omega), elem56, sizeOf_u8, len56]
  simp only [Result.andThen_ok, slicedAt, Nat.mul_one, Addr.add_mid]
  rw [if_neg (by omega), Int.toNat_natCast]
theorem slice_body_to {g n : Nat} (hn : n ≤ 56) (h : Int) (hh : h = (n : Int)) (w : World) :
    (Instr.sliceAt 26 (.pointer (some ⟨g, 1, none⟩)) none (some (.int .i64 h)) none).run Try.prog w = .ok (.slice (some ⟨g, 1, none⟩) n 56) w := by
  subst hh
  rw [run_sliceAt_array_h w 26 _ under56 .i64 _ (by omega) (by rw [len56]; omega), elem56, sizeOf_u8, len56]
  simp only [Result.andThen_ok, slicedAt, Nat.mul_one, Addr.add_mid]
  rw [if_neg (by omega), Int.toNat_natCast]
  rfl

theorem idv_all (A B C : Int) : (#[Value.int .i64 A, .int .i64 B, .int .u32 C]).all (·.oneCell') = true := by simp [Value.oneCell']
theorem stopAt {p : Prop} (h : p ∧ True) : p := h.1
theorem infoID_zero : (Try.prog.info? 41).map (·.zero) = some (some (idv 0 0 0)) := by kernel_rfl
theorem infoID_size : (Try.prog.info? 41).map (·.size) = some 3 := by kernel_rfl
/-- the name that a block's bytes say -/
def bt (b : List UInt8) (i : Nat) : UInt8 := b.getD i 0
def idOf (b : List UInt8) : Int × Int × Int × Bool := takeID (b.take 7)
def longOf (b : List UInt8) : Nat := min (7 + (bt b 13).toNat) 49 - 7
def readNm (b : List UInt8) : Nm := ⟨(idOf b).1, (idOf b).2.1, (idOf b).2.2.1, (b.drop 14).take (longOf b), (((bt b 7).toNat * 256 + (bt b 8).toNat : Nat) : Int), (((bt b 9).toNat * 16777216 + (bt b 10).toNat * 65536 + (bt b 11).toNat * 256 + (bt b 12).toNat : Nat) : Int)⟩
def goodE (k : Int) (b : List UInt8) : Bool := (idOf b).2.2.2 && mayNm (readNm b) && decide (k = 6 ∧ b = entBody (readNm b))
def nmO (k : Int) (b : List UInt8) : Value := .tuple #[if goodE k b then nmV (readNm b) else nmV zNm, .bool (goodE k b)]
theorem idOf_ok (b : List UInt8) (h : b.length = 56) : (-9223372036854775808 ≤ (idOf b).1 ∧ (idOf b).1 ≤ 9223372036854775807) ∧ (-9223372036854775808 ≤ (idOf b).2.1 ∧ (idOf b).2.1 ≤ 9223372036854775807) ∧ (0 ≤ (idOf b).2.2.1 ∧ (idOf b).2.2.1 < 4294967296) := by
  obtain ⟨b0, b1, b2, b3, b4, b5, b6, e⟩ := take_7 (b.take 7) (by rw [List.length_take, h]; rfl)
  unfold idOf
  rw [e]
  have := b0.toNat_lt; have := b1.toNat_lt; have := b2.toNat_lt; have := b3.toNat_lt; have := b4.toNat_lt; have := b5.toNat_lt; have := b6.toNat_lt
  have hA : -1 ≤ idA b0 ∧ idA b0 ≤ 255 := by unfold idA; split <;> omega
  have hB : 0 ≤ idB b1 b2 ∧ idB b1 b2 < 65536 := by unfold idB; omega
  have hC : 0 ≤ idC b3 b4 b5 b6 ∧ idC b3 b4 b5 b6 < 4294967296 := by unfold idC; omega
  have e2 : takeID [b0, b1, b2, b3, b4, b5, b6] = (idA b0, idB b1 b2, idC b3 b4 b5 b6, true) ∨ takeID [b0, b1, b2, b3, b4, b5, b6] = (0, 0, 0, false) := by
    unfold takeID
    by_cases h : putID (idA b0) (idB b1 b2) (idC b3 b4 b5 b6) = [b0, b1, b2, b3, b4, b5, b6]
    · left; dsimp only; rw [if_pos h]
    · right; dsimp only; rw [if_neg h]
  rcases e2 with e2 | e2 <;> rw [e2] <;> dsimp only <;> omega
theorem readNm_ok (b : List UInt8) (h : b.length = 56) : NmOk (readNm b) := by
  obtain ⟨h1, h2, h3⟩ := idOf_ok b h
  have := (bt b 7).toNat_lt; have := (bt b 8).toNat_lt; have := (bt b 9).toNat_lt; have := (bt b 10).toNat_lt; have := (bt b 11).toNat_lt; have := (bt b 12).toNat_lt
  refine ⟨h1, h2, h3, ?_, ?_, ?_⟩
  · unfold readNm; rw [List.length_take, List.length_drop, h]; omega
  · unfold readNm; dsimp only; omega
  · unfold readNm; dsimp only; omega

theorem entB_length {n : Nm} (h : mayNm n = true) : (entB n).length = 14 + n.s.length ∧ n.s.length ≤ 14 := by
  obtain ⟨h1, h2, _⟩ := mayNm_facts h
  have := mayName_len h2
  unfold entB
  rw [List.length_append, List.length_append, putID_length h1, midB_length]
  omega
theorem entBody_length (n : Nm) : (entBody n).length = 56 := by
  unfold entBody
  split
  · rename_i h
    have := entB_length h
    rw [List.length_append, List.length_drop, Z56_length]
    omega
  · exact Z56_length
set_option maxRecDepth 100000 in
set_option maxHeartbeats 8000000 in
theorem entTake_any (k : Int) (b : List UInt8) (w : World) (hb56 : b.length = 56) :
    Calls Try.prog 25 #[blkV k b] w fun e w' => e = .returned (nmO k b) ∧ Below w.heap.size w w' := by
  obtain ⟨x0, x1, x2, x3, x4, x5, x6, e7⟩ := take_7 (b.take 7) (by rw [List.length_take, hb56]; rfl)
  have hid : idOf b = takeID [x0, x1, x2, x3, x4, x5, x6] := by unfold idOf; rw [e7]
  have hbt : ∀ i (h : i < 56), b[i]'(by omega) = bt b i := fun i h => by
    unfold bt
    rw [List.getD_eq_getElem?_getD, List.getElem?_eq_getElem (by omega)]
    rfl
  go_enter Try.func25, Try.ntmps25
  go_wp2_with (refine wp_want rfl fun K hK => ?_; refine wp_blk_box rfl rfl hb56 ?_)
  intro w1 B1 b1 s1
  refine hK _ _ ?_
  clear hK K
  go_wp2_with (refine wp_want rfl fun K hK => ?_; refine wp_rw_alloc (P := Try.prog) (t := 43) (nmV zNm) infoNm_zero rfl ?_)
  intro w2 A2 b2 s2
  refine hK _ _ ?_
  clear hK K
  have W : Below w.heap.size w w2 := b1.trans (b2.mono b1.size)
  have B2 := B1.later b2
  go_wp2_with fail
  refine wp_scope_jumps 0 (fun a' w' => (NmAt w' w1.heap.size zNm ∧ Below w.heap.size w w' ∧ goodE k b = false) ∧ ∃ (z0 z1 z3 z4 z5 z6 z7 z8 z9 z10 z11 z12 z13 z14 z15 z16 z17 z18 z19 z20 z21 z22 z23 z24 z25 z26 z27 z28 z29 z30 z31 z32 z33 z34 z35 z36 z37 z38 z39 z40 z41 z42 z43 z44 z45 z46 z47 z48 z49 z50 z51 z52 z53 z54 z55 z56 z57 z58 z59 z60 z61 z62 z63 z64 z65 z66 z67 z68 z69 z70 z71 z72 z73 z74 z75 z76 z77 : Value), a' = { tmps := #[z0, z1, .pointer (some ⟨w1.heap.size, 0, none⟩), z3, z4, z5, z6, z7, z8, z9, z10, z11, z12, z13, z14, z15, z16, z17, z18, z19, z20, z21, z22, z23, z24, z25, z26, z27, z28, z29, z30, z31, z32, z33, z34, z35, z36, z37, z38, z39, z40, z41, z42, z43, z44, z45, z46, z47, z48, z49, z50, z51, z52, z53, z54, z55, z56, z57, z58, z59, z60, z61, z62, z63, z64, z65, z66, z67, z68, z69, z70, z71, z72, z73, z74, z75, z76, z77], defers := [] }) (fun _ _ => 0) rfl ?_ ?_
  · skip
    go_wp2_with (refine wp_want rfl fun K hK => ?_; refine wp_rw_alloc (P := Try.prog) (t := 43) (nmV zNm) infoNm_zero rfl ?_)
    intro w3 A3 b3 s3
    refine hK _ _ ?_
    clear hK K
    have W := W.trans (b3.mono W.size)
    go_wp2_with (refine wp_want rfl fun K hK => ?_; refine wp_blk_alloc rfl ?_)
    intro w4 B4 b4 s4
    refine hK _ _ ?_
    clear hK K
    have W := W.trans (b4.mono W.size)
    have B1 := (B2.later b3).later b4
    have A2 := RowAt.later (RowAt.later A2 b3) b4
    have A3 := RowAt.later A3 b4
    have y1 := fun w2 => slice_body_from (g := w.heap.size) (i := 7) (by decide) 7 rfl w2
    have y2 := fun w2 => slice_body_to (g := w.heap.size) (n := 7) (by decide) 7 rfl w2
    have r7 := B1.rd (i := 0) (n := 7) (by decide)
    rw [List.drop_zero, e7] at r7
    go_wp2_with fail
    refine (take7_any _ x0 x1 x2 x3 x4 x5 x6 _ r7).mono ?_
    rintro e w5 ⟨rfl, b5⟩
    have htv : takeV [x0, x1, x2, x3, x4, x5, x6] = .tuple #[idv (idOf b).1 (idOf b).2.1 (idOf b).2.2.1, .bool (idOf b).2.2.2] := by unfold takeV; rw [hid]
    rw [htv]
    clear htv hid e7 r7 y1 y2
    have hok := readNm_ok b hb56
    have hbe : goodE k b = ((idOf b).2.2.2 && mayNm (readNm b) && decide (k = 6 ∧ b = entBody (readNm b))) := rfl
    have hrn : readNm b = ⟨(idOf b).1, (idOf b).2.1, (idOf b).2.2.1, (b.drop 14).take (longOf b), (((bt b 7).toNat * 256 + (bt b 8).toNat : Nat) : Int), (((bt b 9).toNat * 16777216 + (bt b 10).toNat * 65536 + (bt b 11).toNat * 256 + (bt b 12).toNat : Nat) : Int)⟩ := rfl
    have p1 := i64_two (bt b 7) (bt b 8)
    have p2 := u32_four (bt b 9) (bt b 10) (bt b 11) (bt b 12)
    generalize (((bt b 7).toNat * 256 + (bt b 8).toNat : Nat) : Int) = pp at *
    generalize (((bt b 9).toNat * 16777216 + (bt b 10).toNat * 65536 + (bt b 11).toNat * 256 + (bt b 12).toNat : Nat) : Int) = gg at *
    generalize idOf b = id4 at *
    obtain ⟨A, B, C, ok⟩ := id4
    dsimp only at hbe hrn ⊢
    have Hbe := Lib.hid hbe
    have Hrn := Lib.hid hrn
    clear hbe hrn
    have W := W.trans (b5.mono W.size)
    have B1 := B1.later b5
    have A2 := RowAt.later A2 b5
    have A3 := RowAt.later A3 b5
    have B4 := B4.later b5
    go_wp2_with (refine wp_want rfl fun K hK => ?_; refine wp_rw_alloc (P := Try.prog) (t := 41) (idv 0 0 0) infoID_zero rfl ?_)
    intro w6 A6 b6 s6
    refine hK _ _ ?_
    clear hK K
    go_wp2_with (refine wp_want rfl fun K hK => ?_; refine wp_rw_store (P := Try.prog) (cs := #[.int .i64 A, .int .i64 B, .int .u32 C]) A6 infoID_size rfl (idv_all A B C) rfl rfl rfl ?_)
    intro w7 A7 g7 z7
    refine hK _ _ ?_
    clear hK K
    have b7 := below_row b6 g7 b6.size (Nat.le_refl _)
    have W := W.trans (b7.mono W.size)
    have B1 := B1.later b7
    have A2 := RowAt.later A2 b7
    have A3 := RowAt.later A3 b7
    have B4 := B4.later b7
    clear A6 b6 s6 g7 z7
    cases ok
    · have hno := Lib.hid (show goodE k b = false by rw [Hbe.out]; rfl)
      go_wp2_with fail
      go_step3
      refine ⟨rfl, ?_, _, _, _, _, _, _, _, _, _, _, _, _, _, _, _, _, _, _, _, _, _, _, _, _, _, _, _, _, _, _, _, _, _, _, _, _, _, _, _, _, _, _, _, _, _, _, _, _, _, _, _, _, _, _, _, _, _, _, _, _, _, _, _, _, _, _, _, _, _, _, _, _, _, _, _, _, _, rfl⟩
      exact ⟨A2, W, hno.out⟩
    · go_wp2_with fail
      have hdr := (Below.refl w7.heap.size w7).drew
      refine Zig.wp_region_zig [(false, 0), (false, 1), (false, 2), (false, 3), (false, 4), (false, 5), (false, 6), (false, 7), (false, 8), (false, 9), (false, 10), (false, 11), (false, 12), (false, 13), (false, 14), (false, 15), (false, 16), (false, 17), (false, 18), (false, 19), (false, 20), (false, 21), (false, 22), (false, 23), (false, 24), (false, 25), (false, 26), (false, 27), (false, 28), (false, 29), (false, 30), (false, 31), (false, 32), (false, 33), (true, 34)] (fun W => Below w7.heap.size w7 W) (by kernel_rfl) (by kernel_rfl) hdr ?_
      simp only [Zig.sel, List.drop_succ_cons, List.drop_zero]
      generalize World.drew w7 = w8 at *
      haveI : Nonempty (Zig.Lt (fun W => Below w7.heap.size w7 W)) := ⟨⟨w8, hdr⟩⟩
      have i0 := fun x : Zig.Lt (fun W => Below w7.heap.size w7 W) => cell_later x.2 (A7.cell 0 (.int .i64 A) rfl)
      have i1 := fun x : Zig.Lt (fun W => Below w7.heap.size w7 W) => cell_later x.2 (A7.cell 1 (.int .i64 B) rfl)
      have i2 := fun x : Zig.Lt (fun W => Below w7.heap.size w7 W) => cell_later x.2 (A7.cell 2 (.int .u32 C) rfl)
      have d7 : ∀ x : Zig.Lt (fun W => Below w7.heap.size w7 W), x.1.cell? ⟨w.heap.size, 8, none⟩ = some (u8 (bt b 7)) := fun x => by
        have := cell_later x.2 (B1.byte (i := 7) (by omega)); rwa [hbt 7 (by decide)] at this
      have d8 : ∀ x : Zig.Lt (fun W => Below w7.heap.size w7 W), x.1.cell? ⟨w.heap.size, 9, none⟩ = some (u8 (bt b 8)) := fun x => by
        have := cell_later x.2 (B1.byte (i := 8) (by omega)); rwa [hbt 8 (by decide)] at this
      have d9 : ∀ x : Zig.Lt (fun W => Below w7.heap.size w7 W), x.1.cell? ⟨w.heap.size, 10, none⟩ = some (u8 (bt b 9)) := fun x => by
        have := cell_later x.2 (B1.byte (i := 9) (by omega)); rwa [hbt 9 (by decide)] at this
      have d10 : ∀ x : Zig.Lt (fun W => Below w7.heap.size w7 W), x.1.cell? ⟨w.heap.size, 11, none⟩ = some (u8 (bt b 10)) := fun x => by
        have := cell_later x.2 (B1.byte (i := 10) (by omega)); rwa [hbt 10 (by decide)] at this
      have d11 : ∀ x : Zig.Lt (fun W => Below w7.heap.size w7 W), x.1.cell? ⟨w.heap.size, 12, none⟩ = some (u8 (bt b 11)) := fun x => by
        have := cell_later x.2 (B1.byte (i := 11) (by omega)); rwa [hbt 11 (by decide)] at this
      have d12 : ∀ x : Zig.Lt (fun W => Below w7.heap.size w7 W), x.1.cell? ⟨w.heap.size, 13, none⟩ = some (u8 (bt b 12)) := fun x => by
        have := cell_later x.2 (B1.byte (i := 12) (by omega)); rwa [hbt 12 (by decide)] at this
      repeat (refine Zig.zig_step (fun K hK => ?_); go_simp; refine hK _ ?_; clear hK K)
      clear i0 i1 i2 d7 d8 d9 d10 d11 d12 p1 p2 A7
      have n7 := W.size
      have A2 := RowAt.later A2 hdr
      have A3 := RowAt.later A3 hdr
      have B1 := B1.later hdr
      have B4 := B4.later hdr
      have W := W.trans (hdr.mono n7)
      have l1 := B2.lt
      have l2 := A2.lt
      have l3 := A3.lt
      have hs1 := s1
      refine Zig.zig_end rfl (by kernel_rfl) (fun K hK => ?_)
      refine wp_rw_store (P := Try.prog) (cs := nmA ⟨A, B, C, [], pp, gg⟩) A3 infoNm_size rfl (nmA_all _) rfl rfl rfl ?_
      intro w9 A9 g9 z9
      refine hK _ _ ?_
      clear hK K
      refine Zig.zig_nil ?_
      have ne2 : w1.heap.size < w2.heap.size := s2
      have ne3 : w2.heap.size < w3.heap.size := s3
      have A2 := RowAt.grown A2 g9 (by omega)
      have B1 := B1.grown g9 (by omega)
      have B4 := B4.grown g9 (by omega)
      have W := below_row W g9 W.size (by omega)
      have c13 : w9.cell? ⟨w.heap.size, 14, none⟩ = some (u8 (bt b 13)) := by
        have := B1.byte (i := 13) (by omega); rwa [hbt 13 (by decide)] at this
      clear A3 g9 z9 l3
      obtain ⟨m, hm⟩ : ∃ m, m = longOf b := ⟨_, rfl⟩
      have hm' : longOf b = min (7 + (bt b 13).toNat) 49 - 7 := rfl
      obtain ⟨M, hM⟩ : ∃ M, M = 7 + m := ⟨_, rfl⟩
      have r14 := B1.rd (i := 14) (n := m) (by omega)
      rw [show m = M - 7 by omega] at r14
      have q1 : 7 ≤ M := by omega
      have q2 : M ≤ 49 := by omega
      have q3 : (7 : Int) ≤ (M : Int) := by omega
      have q4 : (M : Int) ≤ 49 := by omega
      have q5 : max (M : Int) 0 = (M : Int) := by omega
      have hmin : min (wrap64 (7 + wrap64 ((bt b 13).toNat : Int))) 49 = (M : Int) := by
        have := (bt b 13).toNat_lt
        rw [show wrap64 ((bt b 13).toNat : Int) = ((bt b 13).toNat : Int) by unfold wrap64; omega, show wrap64 (7 + ((bt b 13).toNat : Int)) = 7 + ((bt b 13).toNat : Int) by unfold wrap64; omega, hM, hm, hm']
        omega
      have hS := run_string_of (P := Try.prog) r14 37 5 9 Try.underlying37 Try.underlying5 Try.underlying9
      obtain ⟨sx, hsx⟩ : ∃ s, s = (b.drop 14).take (M - 7) := ⟨_, rfl⟩
      rw [← hsx] at hS
      have Hsx := Lib.hid hsx
      have HM := Lib.hid hM
      have Hm := Lib.hid hm
      clear hsx hM hm hm' r14
      obtain ⟨t1, t2, t3⟩ := RowAt.set A9 3 (str sx)
      have u1 := A9.cell 3 (str []) rfl
      have u2 := RowAt.frozen A9 (i := 3)
      have A10 : NmAt (w9.setCell ⟨w2.heap.size, 3, none⟩ (str sx)) w2.heap.size ⟨A, B, C, sx, pp, gg⟩ := t1
      go_upto_region 8 with fail
      have ne2' : w1.heap.size ≠ w2.heap.size := by omega
      have A2 := RowAt.grown A2 t2 ne2'
      have B1 := B1.grown t2 (by omega)
      have B4 := B4.grown t2 (by omega)
      have W := below_row W t2 W.size (by omega)
      generalize w9.setCell ⟨w2.heap.size, 3, none⟩ (str sx) = w10 at *
      clear t1 t2 t3 u1 u2 A9 hS hmin c13
      have hn : readNm b = ⟨A, B, C, sx, pp, gg⟩ := by rw [Hrn.out, Hsx.out, HM.out, Hm.out, Nat.add_sub_cancel_left]
      have hbe : goodE k b = (true && mayNm (readNm b) && decide (k = 6 ∧ b = entBody (readNm b))) := Hbe.out
      rw [hn] at hok hbe
      have hP := fun w => entPut_any ⟨A, B, C, sx, pp, gg⟩ w hok
      have hEl := entBody_length ⟨A, B, C, sx, pp, gg⟩
      have hK6 : mayNm ⟨A, B, C, sx, pp, gg⟩ = true → entK ⟨A, B, C, sx, pp, gg⟩ = 6 := fun h => by unfold entK; rw [h]; rfl
      have Hn := Lib.hid hn
      have Hbe := Lib.hid hbe
      clear hn hbe hok q1 q2 q3 q4 q5
      go_wp2_with (refine wp_want rfl fun K hK => ?_; refine wp_rw_load (P := Try.prog) A10 Try.underlying43 rfl infoNm_size rfl rfl ?_; refine hK _ _ ?_; clear hK K)
      refine (hP _).mono ?_
      rintro e w11 ⟨rfl, b11⟩
      have W := W.trans (b11.mono W.size)
      have A2 := RowAt.later A2 b11
      have A10 := RowAt.later A10 b11
      have B1 := B1.later b11
      have B4 := B4.later b11
      go_wp2_with (refine wp_want rfl fun K hK => ?_; refine wp_blk_store rfl rfl rfl hEl B4 ?_)
      intro w12 B12 g12 z12
      refine hK _ _ ?_
      clear hK K
      have A2 := RowAt.grown A2 g12 (by omega)
      have A10 := RowAt.grown A10 g12 (by omega)
      have B1 := B1.grown g12 (by omega)
      have W := below_row W g12 W.size (by omega)
      clear g12 z12 B4 b11 hP
      have l0 : w.heap.size ≤ w1.heap.size := b1.size
      cases hmy : mayNm ⟨A, B, C, sx, pp, gg⟩
      · have hno := Lib.hid (show goodE k b = false by rw [Hbe.out, hmy]; rfl)
        clear hmy
        go_wp2_with fail
        go_step3
        go_wp2_with (refine wp_want rfl fun K hK => ?_; refine wp_rw_store (P := Try.prog) (cs := nmA zNm) A2 infoNm_size rfl (nmA_all _) rfl rfl rfl ?_)
        intro w13 A13 g13 z13
        refine hK _ _ ?_
        clear hK K
        have W := below_row W g13 W.size (by omega)
        go_wp2_with fail
        simp only [Exit.jump]
        refine bodyPost_ret (results_nm2 rfl rfl rfl A13) rfl ⟨?_, W⟩
        unfold nmO
        rw [hno.out]
        rfl
      · have hk6 := hK6 hmy
        obtain ⟨r, hr⟩ : ∃ r, decide (entK ⟨A, B, C, sx, pp, gg⟩ = k ∧ entBody ⟨A, B, C, sx, pp, gg⟩ = b) = r := ⟨_, rfl⟩
        have hgr : goodE k b = r := by
          rw [Hbe.out, hmy, ← hr, hk6, Bool.true_and, Bool.true_and, Bool.eq_iff_iff, decide_eq_true_iff, decide_eq_true_iff]
          exact ⟨fun h => ⟨h.1.symm, h.2.symm⟩, fun h => ⟨h.1.symm, h.2.symm⟩⟩
        have Hr := Lib.hid hr
        have hno := Lib.hid hgr
        clear hr hgr hk6 hmy
        cases r
        · go_wp2_with (refine wp_want rfl fun K hK => ?_; first | (refine wp_blk_load rfl rfl B12 ?_; refine hK _ _ ?_; clear hK K) | (refine wp_blk_load rfl rfl B1 ?_; refine hK _ _ ?_; clear hK K) | (refine wp_blk_eqlR false Hr.out rfl rfl rfl hEl hb56 ?_; refine hK _ _ ?_; clear hK K))
          go_step3
          go_wp2_with (refine wp_want rfl fun K hK => ?_; refine wp_rw_store (P := Try.prog) (cs := nmA zNm) A2 infoNm_size rfl (nmA_all _) rfl rfl rfl ?_)
          intro w13 A13 g13 z13
          refine hK _ _ ?_
          clear hK K
          have W := below_row W g13 W.size (by omega)
          go_wp2_with fail
          simp only [Exit.jump]
          refine bodyPost_ret (results_nm2 rfl rfl rfl A13) rfl ⟨?_, W⟩
          unfold nmO
          rw [hno.out]
          rfl
        · go_wp2_with (refine wp_want rfl fun K hK => ?_; first | (refine wp_blk_load rfl rfl B12 ?_; refine hK _ _ ?_; clear hK K) | (refine wp_blk_load rfl rfl B1 ?_; refine hK _ _ ?_; clear hK K) | (refine wp_blk_eqlR true Hr.out rfl rfl rfl hEl hb56 ?_; refine hK _ _ ?_; clear hK K) | (refine wp_rw_load (P := Try.prog) A10 Try.underlying43 rfl infoNm_size rfl rfl ?_; refine hK _ _ ?_; clear hK K) | refine wp_rw_store (P := Try.prog) (cs := nmA ⟨A, B, C, sx, pp, gg⟩) A2 infoNm_size rfl (nmA_all _) rfl rfl rfl ?_)
          intro w13 A13 g13 z13
          refine hK _ _ ?_
          clear hK K
          have W := below_row W g13 W.size (by omega)
          go_wp2_with fail
          simp only [Exit.jump]
          refine bodyPost_ret (results_nm2 rfl rfl rfl A13) rfl ⟨?_, W⟩
          unfold nmO
          rw [hno.out, Hn.out]
          rfl
  · skip
    rintro a' w' ⟨⟨hA, hb, hno⟩, z0, z1, z3, z4, z5, z6, z7, z8, z9, z10, z11, z12, z13, z14, z15, z16, z17, z18, z19, z20, z21, z22, z23, z24, z25, z26, z27, z28, z29, z30, z31, z32, z33, z34, z35, z36, z37, z38, z39, z40, z41, z42, z43, z44, z45, z46, z47, z48, z49, z50, z51, z52, z53, z54, z55, z56, z57, z58, z59, z60, z61, z62, z63, z64, z65, z66, z67, z68, z69, z70, z71, z72, z73, z74, z75, z76, z77, rfl⟩
    go_wp2_with (refine wp_want rfl fun K hK => ?_; refine wp_rw_store (P := Try.prog) (cs := nmA zNm) hA infoNm_size rfl (nmA_all _) rfl rfl rfl ?_)
    intro w13 A13 g13 z13
    refine hK _ _ ?_
    clear hK K
    have W := below_row hb g13 hb.size (by have := b1.size; omega)
    go_wp2_with fail
    simp only [Exit.jump]
    refine bodyPost_ret (results_nm2 rfl rfl rfl A13) rfl ⟨?_, W⟩
    unfold nmO
    rw [hno]
    rfl
end Go.Proofs.Ytgeiafijibgdhaa.Cl
