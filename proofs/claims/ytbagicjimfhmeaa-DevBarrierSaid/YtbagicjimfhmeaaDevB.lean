/- dev: Crash, the walk. -/
import Derived.Test.YtbagicjimfhmeaaDevA
import Derived.Test.YtbagicjimfhmeaaZig
set_option linter.unusedVariables false
set_option linter.unusedSimpArgs false
namespace Go.Proofs.Ytbagicjimfhmeaa.Cl
open Go Go.Proofs Go.RowKit Fl

def bits_and (n : Int) : Int := bits .and .u8 n 1
theorem crash_nil (v : Value) (w : World) : Calls Try.prog 17 #[.pointer none, v] w fun e w' => e = .returned (.tuple #[]) ∧ w = w' := by
  go_enter Try.func17, Try.ntmps17
  go_wp2_with fail
  refine bodyPost_ret (results_none rfl _ _ _) rfl ?_
  exact ⟨rfl, rfl⟩
def CrOuter (gd : Nat) (F : Nat → Prop) (D : Dv) (keep : List (List UInt8)) (w : World) (vl : Value) (i : Value) (wr : World) : Prop := ∃ (k : Nat) (rs : List RgA) (F' : Nat → Prop), k ≤ D.1.length ∧ i = .int .i64 (k : Int) ∧ DR wr gd vl rs (crashTo keep D.1 k, D.2) ∧ (∀ j, FP gd vl rs j → F' j) ∧ Step F w wr F'
def CrInner (w5 : World) (a : RgA) (R : Rg) (bits : List UInt8) (i : Value) (wr : World) : Prop := ∃ j : Nat, j ≤ R.later.length ∧ i = .int .i64 (j : Int) ∧ RgAt wr a { R with sure := crashS bits R.sure (R.later.take j) } ∧ RS w5 a wr a
set_option maxRecDepth 100000 in
set_option maxHeartbeats 8000000 in
theorem crash_any {w : World} {gd : Nat} {F : Nat → Prop} {D : Dv} (h : DevRep w gd F D) (keep : List (List UInt8)) (v : Value) (hv : LastsL F w v keep) (hn : D.1.length ≤ 100) (hS : ∀ R ∈ D.1, R.sure.length ≤ 100000 ∧ R.later.length ≤ 100000 ∧ ∀ x ∈ R.later, x.1 < R.sure.length) :
    Calls Try.prog 17 #[ptr gd, v] w fun e w' => e = .returned (.tuple #[]) ∧ ∃ F', DevRep w' gd F' (crashD D keep) ∧ Step F w w' F' := by
  obtain ⟨vl, rs0, h, hF⟩ := h
  have HS := Lib.hid hS
  clear hS
  have c0 := h.cl
  obtain ⟨al, cl, el⟩ := h.vlen
  have hlen : rs0.length = D.1.length := h.len
  rw [hlen] at el
  have el' := el
  rw [el] at c0
  obtain ⟨sl, hsl, hvl⟩ := hv
  have Hsl := Lib.hid hsl
  obtain ⟨av, cv, ev, _⟩ := (hvl w F (Step.refl _ _)).1
  clear hsl hlen
  generalize hnn : D.1.length = n at *
  have Hn := Lib.hid hnn
  clear hnn
  subst ev
  go_enter Try.func17, Try.ntmps17
  go_wp2_with fail
  go_loopw [4, 5, 6, 7, 8, 16, 34] (fun _ _ _ _ _ i _ wr => CrOuter gd F D keep w vl i wr) (fun _ _ _ _ _ i _ _ => n - (intOf i).toNat)
  case atStart => exact ⟨0, rs0, F, Nat.zero_le _, rfl, by rw [crashTo_zero]; exact h, hF, Step.refl _ _⟩
  case round =>
    obtain ⟨k, rs, F1, hk, rfl, N, hF1, S1⟩ := hrel
    clear h hF
    have hlen : rs.length = n := by have := N.len; rw [crashTo_length, Hn.out] at this; exact this
    have Hlen := Lib.hid hlen
    by_cases hlt : k < n
    · have hlI : (k : Int) < (n : Int) := by omega
      have hkr : k < rs.length := by omega
      have hkD : k < D.1.length := by rw [Hn.out]; exact hlt
      have hkC : k < (crashTo keep D.1 k).length := by rw [crashTo_length]; exact hkD
      obtain ⟨gl, c', e1, _, _, hc⟩ := N.cells (by omega)
      rw [el'] at e1
      injection e1 with e1 e2 e3
      subst e1
      clear e2 e3
      have ck := hc k hkr
      have R1 : RgAt wr rs[k] D.1[k] := by have := N.rg k hkr hkC; rwa [crashTo_at keep D.1 k hkD hkC] at this
      have upd := fun (w' : World) a' R' => N.upd (w' := w') k hkr a' R'
      have hsucc := Lib.hid (crashTo_succ keep D.1 k hkD)
      obtain ⟨q1, q2, q3⟩ := HS.out _ (List.getElem_mem hkD)
      obtain ⟨R, hR⟩ : ∃ R, R = D.1[k] := ⟨_, rfl⟩
      obtain ⟨a, ha⟩ : ∃ a, a = rs[k] := ⟨_, rfl⟩
      rw [← hR] at R1 q1 q2 q3 hsucc
      rw [← ha] at R1 upd ck
      have Fa : ∀ j, Blk a j → F1 j := fun j hj => hF1 j (.inr (.inr ⟨_, List.getElem_mem hkr, ha ▸ hj⟩))
      clear hR ha hc hlen
      have Q3 := Lib.hid q3
      clear q3
      obtain ⟨lp, lm, lq, le⟩ := R1.later.shape
      have hlm : lm = R.later.length := by
        obtain ⟨sw, w1, w2, _⟩ := R1.later
        obtain ⟨x1, x2, x3, _⟩ := Rd.of_own1 w1
        rw [le] at x3
        injection x3 with _ x3 _
        omega
      subst hlm
      have cl1 := R1.cl
      rw [le] at cl1
      have hvr := hvl wr F1 S1
      by_cases hkk : k < sl.length
      · skip
        have hkkI : (k : Int) < (sl.length : Int) := by omega
        obtain ⟨ad, rfl, hcs⟩ := hvr.1.at_ k hkk
        have hkp : k < keep.length := by rw [← Hsl.out]; exact hkk
        have hub := fun w' F' h => (hvl w' F' h).2 k hkk hkp
        have hbits : keep.getD k [] = keep[k] := by rw [List.getD_eq_getElem?_getD, List.getElem?_eq_getElem hkp]; rfl
        rw [hbits] at hsucc
        generalize keep[k] = bits at *
        generalize sl[k] = ub at *
        obtain ⟨ab, cb, eb, _⟩ := hub wr F1 S1
        rw [bs_length] at eb
        subst eb
        clear hbits
        go_upto_region 7 with fail
        go_wp2_with fail
        go_loopw [7, 8, 34] (fun _ _ i wx => CrInner wr a R bits i wx) (fun _ _ i _ => R.later.length - (intOf i).toNat)
        case atStart => exact ⟨0, Nat.zero_le _, rfl, by simpa [crashS] using R1, RS.refl _ _⟩
        case round =>
          rename World => wo
          obtain ⟨j, hj, rfl, R2, S2⟩ := hrel
          by_cases hjl : j < R.later.length
          · have hjI : (j : Int) < (R.later.length : Int) := by omega
            obtain ⟨gw, cw, uw, ew, d0, d1, yw⟩ := R2.later.at_ j hjl
            have ew : a.vl = .slice (some ⟨gw, 0, none⟩) R.later.length cw := ew
            rw [le] at ew
            injection ew with ew ew2 ew3
            clear ew2 ew3
            subst ew
            obtain ⟨pw, nw, cw', rfl⟩ := yw.shape
            have hx := Q3.out _ (List.getElem_mem hjl)
            have hts := Lib.hid (take_snoc R.later j hjl)
            have hsn := Lib.hid (crashS_snoc bits R.sure (R.later.take j) R.later[j])
            have htl : (R.later.take j).length = j := by rw [List.length_take]; omega
            rw [htl] at hsn
            clear htl
            generalize R.later[j] = x at *
            have x0 : x.1 < 100000 := by omega
            go_upto_region 10 with fail
            have A6 := RowAt.new wo 86 #[.int .i64 (x.1 : Int), .slice pw nw cw']
            have b6 := below_new wo (.cells #[.int .i64 (x.1 : Int), .slice pw nw cw'] 86)
            generalize wo.alloc (.cells #[.int .i64 (x.1 : Int), .slice pw nw cw'] 86) = W6 at *
            have R6 := R2.below b6
            have S6 := S2.trans (RS.below a b6)
            have T6 : Step F w W6 (fun j => F1 j ∨ wr.heap.size ≤ j) := S1.trans ⟨S6.frm.mono fun j _ h => Fa j h, S6.k8, fun j h => h⟩
            have y6 := yw.below b6
            clear d0 d1 R2 S2 yw
            obtain ⟨q, hq⟩ : ∃ q, q = j / 8 := ⟨_, rfl⟩
            obtain ⟨s8, hs8⟩ : ∃ s, s = j % 8 := ⟨_, rfl⟩
            have e8 : (j : Int) / 8 = (q : Int) := by omega
            have e9 : (j : Int) % 8 = (s8 : Int) := by omega
            have g0 : (0 : Int) ≤ (s8 : Int) := by omega
            have g1 : (s8 : Int) ≤ 8 := by omega
            have hbd : bitAt bits j = (match bits[q]? with | some b => decide (b.toNat / 2 ^ s8 % 2 = 1) | none => false) := by rw [hq, hs8]; rfl
            clear hq hs8
            by_cases hqb : q < bits.length
            · have hqI : (q : Int) < (bits.length : Int) := by omega
              obtain ⟨ad', rfl, hcb⟩ := (hub W6 _ T6).at_ q (by rw [bs_length]; exact hqb)
              rw [List.getElem?_eq_getElem hqb] at hbd
              rw [show (bs bits)[q]'(by rw [bs_length]; exact hqb) = Cl.u8 bits[q] by simp [bs]] at hcb
              generalize bits[q] = β at *
              have hbd : bitAt bits j = decide (β.toNat / 2 ^ s8 % 2 = 1) := hbd
              have hβ := β.toNat_lt
              have hand : bits_and ((β.toNat : Int) / 2 ^ s8) = ((β.toNat / 2 ^ s8 % 2 : Nat) : Int) := by
                have := and_one (β.toNat / 2 ^ s8) (Nat.lt_of_le_of_lt (Nat.div_le_self _ _) hβ)
                rw [Int.natCast_ediv, Int.natCast_pow] at this
                exact this
              unfold bits_and at hand
              obtain ⟨z, hz⟩ : ∃ z, z = β.toNat / 2 ^ s8 % 2 := ⟨_, rfl⟩
              rw [← hz] at hand hbd
              have hz2 : z = 0 ∨ z = 1 := by omega
              clear hz
              rcases hz2 with rfl | rfl
              · have hbf : bitAt bits j = false := hbd.trans (by decide)
                clear hbd
                have hbt : bitAt bits j = false := hbf
                rw [hbt] at hsn
                simp only [Bool.false_eq_true, if_false] at hsn
                clear hbt
                go_wp2_with fail
                go_roundw
                case rel => exact ⟨j + 1, by omega, by go_num, by rw [hts.out, hsn.out]; exact R6, S6⟩
                case measure => simp only [intOf]; omega
              · have hbt : bitAt bits j = true := hbd.trans (by decide)
                rw [hbt] at hsn
                simp only [if_true] at hsn
                clear hbd hbt
                obtain ⟨gu, cu, eu, _, _, _⟩ := R6.sure.shape (by simp only [crashS_length]; omega)
                have hxl : x.1 < (crashS bits R.sure (R.later.take j)).length := by rw [crashS_length]; exact hx
                have T7 := R6.sure
                simp only at T7
                have eu : a.vu = .slice (some ⟨gu, 0, none⟩) (crashS bits R.sure (R.later.take j)).length cu := eu
                rw [eu] at T7
                obtain ⟨u0, hu0, _⟩ := T7.at_ x.1 hxl
                have cu6 := R6.cu
                rw [eu] at cu6
                have hxI : ((x.1 : Nat) : Int) < ((crashS bits R.sure (R.later.take j)).length : Int) := by omega
                have v0 := A6.cell 0 _ rfl
                have v1 := A6.cell 1 _ rfl
                go_upto_region 11 with fail
                have hdr : Below W6.heap.size W6 W6.drew := (Below.refl _ _).drew
                have hb6 := b6.size
                have R7 := R6.below hdr
                obtain ⟨R8, S8, f8⟩ := R7.setOneSure x.1 hxl _ x.2 (y6.below hdr) eu
                have SS : W6.drew.cell? ⟨a.g, 1, none⟩ = some (.slice (some ⟨gu, 0, none⟩) (crashS bits R.sure (R.later.take j)).length cu) ∧ W6.drew.cell? ⟨wo.heap.size, 0, none⟩ = some (.int .i64 (x.1 : Int)) ∧ W6.drew.cell? ⟨wo.heap.size, 1, none⟩ = some (.slice pw nw cw') := ⟨cu6, v0, v1⟩
                have hu0d : W6.drew.cell? ⟨gu, x.1, none⟩ = some u0 := hu0
                have S9 := S6.trans ((RS.below a hdr).trans S8)
                clear v0 v1 cu6 T7 R6 S6 hu0 A6 b6 y6 T6 hcb R7 S8
                generalize crashS bits R.sure (R.later.take j) = sz at *
                refine Zig.wp_region_zig [(false, 0), (false, 1), (false, 2), (false, 3), (false, 4), (false, 5), (false, 6), (false, 7), (false, 8), (true, 9)] (fun W => W.cell? ⟨a.g, 1, none⟩ = some (.slice (some ⟨gu, 0, none⟩) sz.length cu) ∧ W.cell? ⟨wo.heap.size, 0, none⟩ = some (.int .i64 (x.1 : Int)) ∧ W.cell? ⟨wo.heap.size, 1, none⟩ = some (.slice pw nw cw')) (by kernel_rfl) (by kernel_rfl) SS ?_
                simp only [Zig.sel, List.drop_succ_cons, List.drop_zero]
                generalize World.drew W6 = W7 at *
                haveI : Nonempty (Zig.Lt (fun W => W.cell? ⟨a.g, 1, none⟩ = some (.slice (some ⟨gu, 0, none⟩) sz.length cu) ∧ W.cell? ⟨wo.heap.size, 0, none⟩ = some (.int .i64 (x.1 : Int)) ∧ W.cell? ⟨wo.heap.size, 1, none⟩ = some (.slice pw nw cw'))) := ⟨⟨W7, SS⟩⟩
                have i0 := fun y : Zig.Lt (fun W => W.cell? ⟨a.g, 1, none⟩ = some (.slice (some ⟨gu, 0, none⟩) sz.length cu) ∧ W.cell? ⟨wo.heap.size, 0, none⟩ = some (.int .i64 (x.1 : Int)) ∧ W.cell? ⟨wo.heap.size, 1, none⟩ = some (.slice pw nw cw')) => y.2.1
                have i1 := fun y : Zig.Lt (fun W => W.cell? ⟨a.g, 1, none⟩ = some (.slice (some ⟨gu, 0, none⟩) sz.length cu) ∧ W.cell? ⟨wo.heap.size, 0, none⟩ = some (.int .i64 (x.1 : Int)) ∧ W.cell? ⟨wo.heap.size, 1, none⟩ = some (.slice pw nw cw')) => y.2.2.1
                have i2 := fun y : Zig.Lt (fun W => W.cell? ⟨a.g, 1, none⟩ = some (.slice (some ⟨gu, 0, none⟩) sz.length cu) ∧ W.cell? ⟨wo.heap.size, 0, none⟩ = some (.int .i64 (x.1 : Int)) ∧ W.cell? ⟨wo.heap.size, 1, none⟩ = some (.slice pw nw cw')) => y.2.2.2
                repeat (refine Zig.zig_step (fun K hK => ?_); go_simp; refine hK _ ?_; clear hK K)
                refine Zig.zig_end rfl (by kernel_rfl) (fun K hK => ?_)
                unfold Oper.wp
                go_simp
                refine hK _ _ ?_
                clear hK K
                refine Zig.zig_nil ?_
                generalize World.setCell W7 ⟨gu, x.1, none⟩ _ = W9 at *
                clear i0 i1 i2 SS hu0d f8
                go_wp2_with fail
                go_roundw
                case rel => exact ⟨j + 1, by omega, by go_num, by rw [hts.out, hsn.out]; exact R8, S9⟩
                case measure => simp only [intOf]; omega
            · have hqI : ¬ (q : Int) < (bits.length : Int) := by omega
              have hbf : bitAt bits j = false := by rw [hbd, List.getElem?_eq_none (by omega)]
              clear hbd
              have hbt : bitAt bits j = false := hbf
              rw [hbt] at hsn
              simp only [Bool.false_eq_true, if_false] at hsn
              clear hbt
              go_wp2_with fail
              go_roundw
              case rel => exact ⟨j + 1, by omega, by go_num, by rw [hts.out, hsn.out]; exact R6, S6⟩
              case measure => simp only [intOf]; omega
          · have hjI : ¬ (j : Int) < (R.later.length : Int) := by omega
            rw [List.take_of_length_le (by omega)] at R2
            have hcl := cloneT_any a.vu (crashS bits R.sure R.later) wo R2.sure (by rw [crashS_length]; omega)
            have cu2 := R2.cu
            go_wp2_with fail
            refine hcl.mono ?_
            rintro e W6 ⟨u6, rfl, t6, b6⟩
            obtain ⟨R7, S7, k7, f7⟩ := R2.setSeen u6 _ b6 t6
            obtain ⟨R8, S8, k8, f8⟩ := R7.setLater (.slice none 0 0) [] (Frm.refl _ _) (lies_none _ _) (LL.nil _)
            obtain ⟨a6, c6, e6, _⟩ := t6.len
            generalize hLL : crashS bits R.sure R.later = LL6 at *
            subst e6
            have s8 := S2.trans (S7.trans S8)
            obtain ⟨H9, F9⟩ := upd _ _ _ s8 R8
            have k8 : (W6.setCell ⟨a.g, 0, none⟩ (.slice a6 LL6.length c6)).cell? ⟨a.g, 2, none⟩ = some a.vl := k8
            rw [le] at k8
            go_wp2_with fail
            generalize World.setCell (World.setCell W6 ⟨a.g, 0, none⟩ _) ⟨a.g, 2, none⟩ _ = W9 at *
            go_roundw
            case rel =>
              refine ⟨k + 1, _, fun i => F1 i ∨ wr.heap.size ≤ i, by omega, by go_num, ?_, fun i hi => (F9 i hi).imp (hF1 i) id, S1.trans ⟨s8.frm.mono fun i _ h => Fa i h, s8.k8, fun i h => h⟩⟩
              rw [hsucc.out]
              unfold crashR
              rw [hLL]
              exact H9
            case measure => simp only [intOf]; omega
      · skip
        have hkkI : ¬ (k : Int) < (sl.length : Int) := by omega
        have hbits : keep.getD k [] = [] := by rw [List.getD_eq_getElem?_getD, List.getElem?_eq_none (by rw [← Hsl.out]; omega)]; rfl
        rw [hbits] at hsucc
        obtain ⟨bits, hb0⟩ : ∃ b : List UInt8, b = [] := ⟨_, rfl⟩
        rw [← hb0] at hsucc
        have Hb0 := Lib.hid hb0
        clear hb0 hbits
        go_upto_region 7 with fail
        go_wp2_with fail
        go_loopw [7, 8, 34] (fun _ _ i wx => CrInner wr a R bits i wx) (fun _ _ i _ => R.later.length - (intOf i).toNat)
        case atStart => exact ⟨0, Nat.zero_le _, rfl, by simpa [crashS] using R1, RS.refl _ _⟩
        case round =>
          rename World => wo
          obtain ⟨j, hj, rfl, R2, S2⟩ := hrel
          by_cases hjl : j < R.later.length
          · have hjI : (j : Int) < (R.later.length : Int) := by omega
            obtain ⟨gw, cw, uw, ew, d0, d1, yw⟩ := R2.later.at_ j hjl
            have ew : a.vl = .slice (some ⟨gw, 0, none⟩) R.later.length cw := ew
            rw [le] at ew
            injection ew with ew ew2 ew3
            clear ew2 ew3
            subst ew
            obtain ⟨pw, nw, cw', rfl⟩ := yw.shape
            have hx := Q3.out _ (List.getElem_mem hjl)
            have hts := Lib.hid (take_snoc R.later j hjl)
            have hsn := Lib.hid (crashS_snoc bits R.sure (R.later.take j) R.later[j])
            have htl : (R.later.take j).length = j := by rw [List.length_take]; omega
            rw [htl] at hsn
            clear htl
            generalize R.later[j] = x at *
            have x0 : x.1 < 100000 := by omega
            go_upto_region 10 with fail
            have A6 := RowAt.new wo 86 #[.int .i64 (x.1 : Int), .slice pw nw cw']
            have b6 := below_new wo (.cells #[.int .i64 (x.1 : Int), .slice pw nw cw'] 86)
            generalize wo.alloc (.cells #[.int .i64 (x.1 : Int), .slice pw nw cw'] 86) = W6 at *
            have R6 := R2.below b6
            have S6 := S2.trans (RS.below a b6)
            have T6 : Step F w W6 (fun j => F1 j ∨ wr.heap.size ≤ j) := S1.trans ⟨S6.frm.mono fun j _ h => Fa j h, S6.k8, fun j h => h⟩
            have y6 := yw.below b6
            clear d0 d1 R2 S2 yw
            obtain ⟨q, hq⟩ : ∃ q, q = j / 8 := ⟨_, rfl⟩
            have e8 : (j : Int) / 8 = (q : Int) := by omega
            have q0 : ¬ (q : Int) < 0 := by omega
            clear hq
            have hbt : bitAt bits j = false := by rw [Hb0.out]; rfl
            rw [hbt] at hsn
            simp only [Bool.false_eq_true, if_false] at hsn
            clear hbt
            go_wp2_with fail
            go_roundw
            case rel => exact ⟨j + 1, by omega, by go_num, by rw [hts.out, hsn.out]; exact R6, S6⟩
            case measure => simp only [intOf]; omega
          · have hjI : ¬ (j : Int) < (R.later.length : Int) := by omega
            rw [List.take_of_length_le (by omega)] at R2
            have hcl := cloneT_any a.vu (crashS bits R.sure R.later) wo R2.sure (by rw [crashS_length]; omega)
            have cu2 := R2.cu
            go_wp2_with fail
            refine hcl.mono ?_
            rintro e W6 ⟨u6, rfl, t6, b6⟩
            obtain ⟨R7, S7, k7, f7⟩ := R2.setSeen u6 _ b6 t6
            obtain ⟨R8, S8, k8, f8⟩ := R7.setLater (.slice none 0 0) [] (Frm.refl _ _) (lies_none _ _) (LL.nil _)
            obtain ⟨a6, c6, e6, _⟩ := t6.len
            generalize hLL : crashS bits R.sure R.later = LL6 at *
            subst e6
            have s8 := S2.trans (S7.trans S8)
            obtain ⟨H9, F9⟩ := upd _ _ _ s8 R8
            have k8 : (W6.setCell ⟨a.g, 0, none⟩ (.slice a6 LL6.length c6)).cell? ⟨a.g, 2, none⟩ = some a.vl := k8
            rw [le] at k8
            go_wp2_with fail
            generalize World.setCell (World.setCell W6 ⟨a.g, 0, none⟩ _) ⟨a.g, 2, none⟩ _ = W9 at *
            go_roundw
            case rel =>
              refine ⟨k + 1, _, fun i => F1 i ∨ wr.heap.size ≤ i, by omega, by go_num, ?_, fun i hi => (F9 i hi).imp (hF1 i) id, S1.trans ⟨s8.frm.mono fun i _ h => Fa i h, s8.k8, fun i h => h⟩⟩
              rw [hsucc.out]
              unfold crashR
              rw [hLL]
              exact H9
            case measure => simp only [intOf]; omega
    · have hlI : ¬ (k : Int) < (n : Int) := by omega
      have hk2 : k = n := by rw [Hn.out] at hk; omega
      subst hk2
      obtain ⟨H2, S2, f2⟩ := N.setLeft (-1)
      have cl2 := N.left
      go_wp2_with fail
      go_end0
      have hcd : crashD D keep = (crashTo keep D.1 k, -1) := by unfold crashD; rw [Hn.out]
      rw [hcd]
      exact ⟨rfl, F1, ⟨vl, rs, H2, hF1⟩, S1.trans ⟨S2.1.mono fun j _ e => e ▸ hF1 gd (.inl rfl), S2.2.1, fun j h => .inl h⟩⟩
end Go.Proofs.Ytbagicjimfhmeaa.Cl
