/- The law DevKeeps. -/
import Derived.Test.YtbagicjimfhmeaaDevT
import Derived.Test.YtbagicjimfhmeaaDevL
import Derived.Test.YtbagicjimfhmeaaRelyT
import Derived.Test.YtbagicjimfhmeaaZigS
set_option linter.unusedVariables false
set_option linter.unusedSimpArgs false
namespace Go.Proofs.Ytbagicjimfhmeaa.Cl
open Go Go.Proofs Go.RowKit Fl

theorem fullB_nil : fullB [] = Z64 := rfl
theorem rd_ff5 (w : World) : Rd (w.alloc (.cells #[.int .u8 255, .int .u8 255, .int .u8 255, .int .u8 255, .int .u8 255] 5)) (.slice (some ⟨w.heap.size, 0, none⟩) 5 5) (bs FF5) :=
  Rd.new w #[u8 255, u8 255, u8 255, u8 255, u8 255] 5 (0, 0) 5 rfl (by simp)
structure LitF (w0 : World) (W : World) : Prop where
  b : Below w0.heap.size w0 W
  s : W.heap.size = w0.heap.size + 3
  r0 : Rd W (.slice (some ⟨w0.heap.size, 0, none⟩) 5 5) (bs FF5)
  r1 : Rd W (.slice (some ⟨w0.heap.size + 1, 0, none⟩) 5 5) (bs FF5)
  r2 : Rd W (.slice (some ⟨w0.heap.size + 1 + 1, 0, none⟩) 2 2) [.slice (some ⟨w0.heap.size, 0, none⟩) 5 5, .slice (some ⟨w0.heap.size + 1, 0, none⟩) 5 5]
theorem lit_ff5 (w0 : World) : LitF w0 (((w0.alloc (.cells #[.int .u8 255, .int .u8 255, .int .u8 255, .int .u8 255, .int .u8 255] 5)).alloc (.cells #[.int .u8 255, .int .u8 255, .int .u8 255, .int .u8 255, .int .u8 255] 5)).alloc (.cells #[.slice (some ⟨w0.heap.size, 0, none⟩) 5 5, .slice (some ⟨w0.heap.size + 1, 0, none⟩) 5 5] 34)) := by
  generalize hw1 : w0.alloc (.cells #[.int .u8 255, .int .u8 255, .int .u8 255, .int .u8 255, .int .u8 255] 5) = w1
  have s1 : w1.heap.size = w0.heap.size + 1 := by rw [← hw1]; simp
  have r0 : Rd w1 (.slice (some ⟨w0.heap.size, 0, none⟩) 5 5) (bs FF5) := by rw [← hw1]; exact rd_ff5 w0
  have b1 : Below w0.heap.size w0 w1 := by rw [← hw1]; exact below_new _ _
  clear hw1
  generalize hw2 : w1.alloc (.cells #[.int .u8 255, .int .u8 255, .int .u8 255, .int .u8 255, .int .u8 255] 5) = w2
  have s2 : w2.heap.size = w0.heap.size + 1 + 1 := by rw [← hw2]; simp [s1]
  have r1 : Rd w2 (.slice (some ⟨w1.heap.size, 0, none⟩) 5 5) (bs FF5) := by rw [← hw2]; exact rd_ff5 w1
  have b2 : Below w1.heap.size w1 w2 := by rw [← hw2]; exact below_new _ _
  clear hw2
  have r0 := r0.below b2
  rw [s1] at r1
  generalize hw3 : w2.alloc (.cells #[.slice (some ⟨w0.heap.size, 0, none⟩) 5 5, .slice (some ⟨w0.heap.size + 1, 0, none⟩) 5 5] 34) = w3
  have r2 : Rd w3 (.slice (some ⟨w2.heap.size, 0, none⟩) 2 2) [.slice (some ⟨w0.heap.size, 0, none⟩) 5 5, .slice (some ⟨w0.heap.size + 1, 0, none⟩) 5 5] := by rw [← hw3]; exact Rd.new w2 #[_, _] 34 (0, 0) 2 rfl (by simp)
  have s3 : w3.heap.size = w0.heap.size + 3 := by rw [← hw3]; simp [s2]
  have b3 : Below w2.heap.size w2 w3 := by rw [← hw3]; exact below_new _ _
  clear hw3
  have r0 := r0.below b3
  have r1 := r1.below b3
  rw [s2] at r2
  exact ⟨(b1.trans (b2.mono (by omega))).trans (b3.mono (by omega)), s3, r0, r1, r2⟩
def Ke3 (w : World) (g a1 a2 n : Nat) (D : Dv) (L U : List (List UInt8)) (i : Value) (wr : World) : Prop := ∃ j : Nat, j ≤ 8 ∧ i = .int .i64 (j : Int) ∧ DAt w.heap.size wr g n D ∧ RowAt wr a2 30 (svs U) ∧ Below w.heap.size w wr
def Ke1 (w : World) (g a1 a2 : Nat) (i : Value) (wr : World) : Prop := ∃ k : Nat, k ≤ 8 ∧ i = .int .i64 (k : Int) ∧ Kp w g a1 a2 0 (newD [4, 4]) (List.replicate k Z64 ++ List.replicate (8 - k) []) (List.replicate k Z64 ++ List.replicate (8 - k) []) wr
def Ke2 (w : World) (g a1 a2 : Nat) (l : List Deed) (i : Value) (wr : World) : Prop := ∃ (k : Nat) (D : Dv) (L U : List (List UInt8)), k ≤ l.length ∧ i = .int .i64 (k : Int) ∧ Kp w g a1 a2 k D L U wr ∧ KInv D L U ∧ Seq D
set_option maxRecDepth 100000 in
set_option maxHeartbeats 4000000 in
theorem devKeeps_law (l : List Deed) (v : Value) (all : Bool) (w : World) (hl : RdDs w v l) :
    Calls Try.prog 4 #[v, .bool all] w fun e w' => e = .returned (.bool true) ∧ Below w.heap.size w w' := by
  obtain ⟨a0, cap, rfl, hc1, hc2, hds⟩ := hl
  go_enter Try.func4, Try.ntmps4
  go_wp2_with fail
  refine (devBegun_any w).mono ?_
  rintro e w1 ⟨rfl, b1⟩
  by_cases hlen : l.length ≤ 40
  · have hlI : ¬ (40 : Int) < (l.length : Int) := by omega
    go_wp2_with fail
    refine (dNew1 w1 w.heap.size #[.int .i64 4, .int .i64 4] [4, 4] 2 rfl rfl (by unfold okS; decide) b1.size).mono ?_
    rintro e w2 ⟨g, rfl, d2, bx⟩
    have d2 : DAt w.heap.size w2 g 0 (newD [4, 4]) := d2
    have b2 := b1.trans (bx.mono b1.size)
    clear bx b1
    go_wp2_with (refine wp_want rfl fun K hK => ?_; refine wp_rw_alloc (P := Try.prog) (t := 30) (.agg (svs (List.replicate 8 []))) infoG_zero rfl ?_)
    intro w3 A3 c3 s3
    refine hK _ _ ?_
    clear hK K
    go_wp2_with (refine wp_want rfl fun K hK => ?_; refine wp_rw_alloc (P := Try.prog) (t := 30) (.agg (svs (List.replicate 8 []))) infoG_zero rfl ?_)
    intro w4 A4 c4 s4
    refine hK _ _ ?_
    clear hK K
    have A3 := A3.later c4
    have b4 := (b2.trans (c3.mono b2.size)).trans (c4.mono (Nat.le_trans b2.size c3.size))
    have z1 := b2.size
    have z2 := c3.size
    have K4 : Kp w g w2.heap.size w3.heap.size 0 (newD [4, 4]) (List.replicate 0 Z64 ++ List.replicate (8 - 0) []) (List.replicate 0 Z64 ++ List.replicate (8 - 0) []) w4 :=
      ⟨DZ.start d2 (c3.trans (c4.mono c3.size)) (by rintro k (rfl | rfl) <;> omega), A3, A4, b4, by omega, by omega, by omega⟩
    clear d2 b2 c3 c4 s4 s3 A3 A4 b4 z1 z2
    generalize w2.heap.size = a1 at *
    generalize w3.heap.size = a2 at *
    go_wp2_with fail
    go_loopw [9] (fun i wr => Ke1 w g a1 a2 i wr) (fun i _ => 8 - (intOf i).toNat)
    case atStart => exact ⟨0, Nat.zero_le _, rfl, K4⟩
    case round =>
      clear K4
      obtain ⟨j, hj, rfl, k0⟩ := hrel
      by_cases hj8 : j < 8
      · have hjI : (j : Int) < 8 := by omega
        obtain ⟨q, hq⟩ : ∃ q, q = j / 4 := ⟨_, rfl⟩
        obtain ⟨s, hs⟩ : ∃ s, s = j % 4 := ⟨_, rfl⟩
        have e8 : (j : Int) / 4 = (q : Int) := by omega
        have e9 : (j : Int) % 4 = (s : Int) := by omega
        have e8' : (j : Int).tdiv 4 = (q : Int) := by rw [Int.tdiv_eq_ediv_of_nonneg (by omega)]; exact e8
        have e9' : (j : Int).tmod 4 = (s : Int) := by rw [Int.tmod_eq_emod_of_nonneg (by omega)]; exact e9
        have g0 : (0 : Int) ≤ (q : Int) := by omega
        have q2 : (q : Int) < 2 := by omega
        have s4 : (s : Int) < 4 := by omega
        have hqs : q * 4 + s = j := by omega
        have ew : IntKind.i64.wrap (q : Int) = (q : Int) := IntWalk.i64_in _ (by omega)
        clear hq hs
        have SS : True := trivial
        have hdr : Below wr.heap.size wr wr.drew := (Below.refl _ _).drew
        go_upto_region 12 with fail
        refine ZigS.wp_region_zigS [(false, 0), (false, 1), (false, 2), (false, 3), (false, 4), (false, 5), (false, 6), (false, 7), (false, 12), (false, 15), (true, 8), (false, 9), (false, 13), (true, 10), (false, 11), (true, 14), (false, 16), (true, 17)] (fun W => True) (by kernel_rfl) (by kernel_rfl) SS ?_
        simp only [Zig.sel, List.drop_succ_cons, List.drop_zero]
        generalize World.drew wr = wd at *
        haveI : Nonempty (Zig.Lt (fun W => True)) := ⟨⟨wd, SS⟩⟩
        repeat (refine ZigS.zig_step (fun K hK => ?_); go_simp; refine hK _ ?_; clear hK K)
        refine ZigS.zig_more rfl (fun K hK => ?_)
        unfold Oper.wp
        go_simp
        refine (dFull _ [] _ (Rd.nil _)).mono ?_
        rintro ee w5 ⟨g5, rfl, y5, b5⟩
        rw [fullB_nil] at y5
        refine hK _ _ (fun W => Byt W (.slice (some ⟨g5, 0, none⟩) 64 64) Z64) (fun _ _ => trivial) y5 ?_
        clear hK K
        haveI : Nonempty (Zig.Lt (fun W => Byt W (.slice (some ⟨g5, 0, none⟩) 64 64) Z64)) := ⟨⟨w5, y5⟩⟩
        have hs5 := fun x : Zig.Lt (fun W => Byt W (.slice (some ⟨g5, 0, none⟩) 64 64) Z64) => run_string_of (P := Try.prog) x.2.rd 34 5 9 Try.underlying34 Try.underlying5 Try.underlying9
        repeat (refine ZigS.zig_step (fun K hK => ?_); go_simp; refine hK _ ?_; clear hK K)
        clear hs5
        refine ZigS.zig_more rfl (fun K hK => ?_)
        unfold Oper.wp
        go_simp
        refine (dFull _ [] _ (Rd.nil _)).mono ?_
        rintro ee w6 ⟨g6, rfl, y6, b6⟩
        rw [fullB_nil] at y6
        have y5 := y5.below b6
        refine hK _ _ (fun W => Byt W (.slice (some ⟨g5, 0, none⟩) 64 64) Z64 ∧ Byt W (.slice (some ⟨g6, 0, none⟩) 64 64) Z64) (fun _ h => h.1) ⟨y5, y6⟩ ?_
        clear hK K
        haveI : Nonempty (Zig.Lt (fun W => Byt W (.slice (some ⟨g5, 0, none⟩) 64 64) Z64 ∧ Byt W (.slice (some ⟨g6, 0, none⟩) 64 64) Z64)) := ⟨⟨w6, y5, y6⟩⟩
        have hs6 := fun x : Zig.Lt (fun W => Byt W (.slice (some ⟨g5, 0, none⟩) 64 64) Z64 ∧ Byt W (.slice (some ⟨g6, 0, none⟩) 64 64) Z64) => run_string_of (P := Try.prog) x.2.2.rd 34 5 9 Try.underlying34 Try.underlying5 Try.underlying9
        repeat (refine ZigS.zig_step (fun K hK => ?_); go_simp; refine hK _ ?_; clear hK K)
        clear hs6
        have k6 := ((k0.below hdr).below b5).below b6
        clear k0 hdr b5 b6
        have hL := fill_len j hj Z64
        refine ZigS.zig_more rfl (fun K hK => ?_)
        refine wp_rw_storeP (P := Try.prog) (v := sv Z64) k6.A infoSt_size (by rw [svs_size, hL]; exact hj8) (by intro u hu; simp [sv, Value.cells] at hu; rw [hu]; rfl) rfl rfl rfl ?_
        intro w7 A7 g7 z7
        rw [show (sv Z64).cells.toList = [sv Z64] from rfl, svs_set _ _ _ (by rw [hL]; exact hj8), fill_step j hj8] at A7
        have kb := Keep8.of_grown g7 (fun k e => by obtain rfl := Option.some.inj e; exact k6.A.notB (by decide))
        have y5 := y5.keep kb
        have y6 := y6.keep kb
        refine hK _ _ (fun W => Byt W (.slice (some ⟨g5, 0, none⟩) 64 64) Z64 ∧ Byt W (.slice (some ⟨g6, 0, none⟩) 64 64) Z64) (fun _ h => h) ⟨y5, y6⟩ ?_
        clear hK K kb
        have k7 := k6.put1 A7 g7
        clear k6 A7 g7 z7
        repeat (refine ZigS.zig_step (fun K hK => ?_); go_simp; refine hK _ ?_; clear hK K)
        refine ZigS.zig_end rfl (by kernel_rfl) (fun K hK => ?_)
        refine wp_rw_storeP (P := Try.prog) (v := sv Z64) k7.A' infoSt_size (by rw [svs_size, hL]; exact hj8) (by intro u hu; simp [sv, Value.cells] at hu; rw [hu]; rfl) rfl rfl rfl ?_
        intro w8 A8 g8 z8
        rw [show (sv Z64).cells.toList = [sv Z64] from rfl, svs_set _ _ _ (by rw [hL]; exact hj8), fill_step j hj8] at A8
        refine hK _ _ ?_
        have k8 := k7.put2 A8 g8
        clear hK K k7 A8 g8 z8 y5 y6 hL
        refine ZigS.zig_nil ?_
        go_wp2_with fail
        go_roundw
        case rel => exact ⟨j + 1, by omega, by go_num, k8⟩
        case measure => simp only [intOf]; omega
      · have hjI : ¬ (j : Int) < 8 := by omega
        obtain rfl : j = 8 := by omega
        have k0 : Kp w g a1 a2 0 (newD [4, 4]) (List.replicate 8 Z64) (List.replicate 8 Z64) wr := by simpa using k0
        go_wp2_with fail
        go_loopw [10, 11, 12] (fun i _ _ wr => Ke2 w g a1 a2 l i wr) (fun i _ _ _ => l.length - (intOf i).toNat)
        case atStart => exact ⟨0, _, _, _, Nat.zero_le _, rfl, k0, KInv.new, Seq.new _⟩
        case round =>
          clear k0
          obtain ⟨k, D, L, U, hk, rfl, k0, KI, sq⟩ := hrel
          by_cases hkl : k < l.length
          · have hkI : (k : Int) < (l.length : Int) := by omega
            obtain ⟨ad, rfl, D0⟩ := hds k hkl
            obtain ⟨o, ho⟩ : ∃ o, o = l[k] := ⟨_, rfl⟩
            rw [← ho] at D0
            have hD := D0.below k0.b
            have q4w := D0.q4
            have qbw := D0.rb
            have q0 := hD.q0
            have q1 := hD.q1
            have q2 := hD.q2
            have q4 := hD.q4
            have qb := hD.rb
            obtain ⟨r, hr⟩ : ∃ r : Nat, (r : Int) = o.region % 2 := ⟨(o.region % 2).toNat, by omega⟩
            obtain ⟨s, hs⟩ : ∃ s : Nat, (s : Int) = o.i % 4 := ⟨(o.i % 4).toNat, by omega⟩
            have e1 := i64_and1 o.region
            have e2 := i64_and3 o.i
            rw [← hr] at e1
            rw [← hs] at e2
            have r2 : r < 2 := by omega
            have s4 : s < 4 := by omega
            clear hr hs hD D0 ho
            have x1 := fun y : RelyT.Lat wr.drew => cell_later y.2 (show wr.drew.cell? _ = _ from q1)
            have x2 := fun y : RelyT.Lat wr.drew => cell_later y.2 (show wr.drew.cell? _ = _ from q2)
            have hdr : Below wr.heap.size wr wr.drew := (Below.refl _ _).drew
            go_upto_region 16 with fail
            refine RelyT.wp_region_rely 14 (by kernel_rfl) (by kernel_rfl) ?_
            simp only [List.take_succ_cons, List.take_zero]
            generalize World.drew wr = wd at *
            repeat (first
              | (refine RelyT.wpR_step0 ?_ ?_ (fun K hK => ?_); rfl; rfl; go_simp; refine hK _ ?_; clear hK K))
            refine RelyT.wpR_nil fun x => ?_
            obtain ⟨we, web⟩ := x
            simp only [RelyT.close, List.drop_succ_cons, List.drop_zero]
            have hdr := hdr.trans (web.mono hdr.size)
            have k0 := k0.below hdr
            have q0 := cell_later hdr q0
            have q4 := cell_later hdr q4
            have qb := qb.below hdr
            clear x1 x2 web q1 q2 hdr e1 e2
            obtain ⟨hL, hU⟩ := KI.len
            have hL := Lib.hid hL
            have hU := Lib.hid hU
            have r2I : (r : Int) < 2 := by omega
            have s4I : (s : Int) < 4 := by omega
            have r0I : (0 : Int) ≤ (r : Int) := by omega
            have s0I : (0 : Int) ≤ (s : Int) := by omega
            by_cases hkind : o.kind.tmod 5 = 4
            · go_wp2_with fail
              refine (k0.barrier (by omega) (r : Int)).mono ?_
              rintro ee w5 ⟨rfl, k5, _⟩
              clear k0
              have KI5 := KI.barrier r r2
              have sq5 := sq.barrierZ (r : Int)
              have hp := Lib.hid (part_len r r2 L hL.out)
              have ha := Lib.hid (part_at r r2 L hL.out)
              have hl := Lib.hid (svs_lay r r2 L U hL.out hU.out)
              have ho := Lib.hid (svs_all ((L.drop (r * 4)).take 4))
              rw [show ((L.drop (r * 4)).take 4).map sv = part r L from rfl] at ho
              generalize part r L = vs at *
              go_wp2_with (refine wp_want rfl fun K hK => ?_; first | (refine wp_rw_loadP (P := Try.prog) (s := r * 4) vs k5.A Try.underlying29 rfl (by rw [hp.out]; exact infoG4_size) ha.out rfl rfl ?_; refine hK _ _ ?_; clear hK K) | (refine wp_rw_storeP (P := Try.prog) (s := r * 4) (v := .agg vs.toArray) k5.A' (by rw [show (Value.agg vs.toArray).cells = vs.toArray from rfl, List.size_toArray, hp.out]; exact infoG4_size) (by rw [show (Value.agg vs.toArray).cells = vs.toArray from rfl, List.size_toArray, hp.out, svs_size, hU.out]; omega) (fun u hu => ho.out u (by simpa [Value.cells] using hu)) rfl rfl rfl ?_))
              intro w6 A6 g6 z6
              rw [hl.out] at A6
              refine hK _ _ ?_
              clear hK K hl hp ho ha
              have k6 := k5.put2 A6 g6
              clear k5 A6 g6 z6 KI sq hU
              generalize lay r L U = U' at *
              go_wp2_with fail
              go_roundw
              case rel => exact ⟨k + 1, _, _, _, by omega, by go_num, k6, KI5, sq5⟩
              case measure => simp only [intOf]; omega
            · go_wp2_with fail
              refine (dFull _ o.b _ qb).mono ?_
              rintro ee w5 ⟨g5, rfl, y5, b5⟩
              have k5 := k0.below b5
              have qb := qb.below b5
              have q4 := cell_later b5 q4
              clear k0 b5
              go_wp2_with fail
              refine (k5.write (by omega) (r : Int) (s : Int) _ (fullB o.b) y5).mono ?_
              rintro ee w6 ⟨rfl, k6, c6⟩
              clear k5 y5 qb q4 q0
              have q4 := cell_later k6.b q4w
              have qb := qbw.below k6.b
              have KI6 := KI.write r s r2 s4 (fullB o.b) (fullB_length _)
              have sq6 := sq.writeZ (r : Int) (s : Int) (fullB o.b)
              have hrs : r * 4 + s < L.length := by rw [hL.out]; omega
              clear KI sq hU hL
              generalize writeZ D (r : Int) (s : Int) (fullB o.b) = D' at *
              have hdr : Below w6.heap.size w6 w6.drew := (Below.refl _ _).drew
              go_upto_region 21 with fail
              refine ZigS.wp_region_zigS [(false, 0), (false, 1), (false, 2), (false, 3), (false, 4), (false, 5), (false, 6), (false, 9), (true, 7), (false, 8), (false, 10), (true, 11)] (fun W => Below w6.heap.size w6 W) (by kernel_rfl) (by kernel_rfl) hdr ?_
              simp only [Zig.sel, List.drop_succ_cons, List.drop_zero]
              generalize World.drew w6 = wd at *
              haveI : Nonempty (Zig.Lt (fun W => Below w6.heap.size w6 W)) := ⟨⟨wd, hdr⟩⟩
              have x4 := fun y : Zig.Lt (fun W => Below w6.heap.size w6 W) => cell_later y.2 q4
              repeat (refine ZigS.zig_step (fun K hK => ?_); go_simp; refine hK _ ?_; clear hK K)
              clear x4
              refine ZigS.zig_more rfl (fun K hK => ?_)
              unfold Oper.wp
              go_simp
              refine (dFull _ o.b _ (qb.below hdr)).mono ?_
              rintro ee w7 ⟨g7, rfl, y7, b7⟩
              have hdr := hdr.trans (b7.mono hdr.size)
              refine hK _ _ (fun W => Below w6.heap.size w6 W ∧ Byt W (.slice (some ⟨g7, 0, none⟩) 64 64) (fullB o.b)) (fun _ h => h.1) ⟨hdr, y7⟩ ?_
              clear hK K
              haveI : Nonempty (Zig.Lt (fun W => Below w6.heap.size w6 W ∧ Byt W (.slice (some ⟨g7, 0, none⟩) 64 64) (fullB o.b))) := ⟨⟨w7, hdr, y7⟩⟩
              have hs7 := fun x : Zig.Lt (fun W => Below w6.heap.size w6 W ∧ Byt W (.slice (some ⟨g7, 0, none⟩) 64 64) (fullB o.b)) => run_string_of (P := Try.prog) x.2.2.rd 34 5 9 Try.underlying34 Try.underlying5 Try.underlying9
              repeat (refine ZigS.zig_step (fun K hK => ?_); go_simp; refine hK _ ?_; clear hK K)
              have k7 := k6.below hdr
              clear hs7 k6 hdr b7 y7 q4 qb
              refine ZigS.zig_end rfl (by kernel_rfl) (fun K hK => ?_)
              refine wp_rw_storeP (P := Try.prog) (s := r * 4 + s) (v := sv (fullB o.b)) k7.A infoSt_size (by rw [svs_size]; exact hrs) (by intro u hu; simp [sv, Value.cells] at hu; rw [hu]; rfl) rfl rfl rfl ?_
              intro w8 A8 g8 z8
              rw [show (sv (fullB o.b)).cells.toList = [sv (fullB o.b)] from rfl, svs_set _ _ _ hrs] at A8
              refine hK _ _ ?_
              have k8 := k7.put1 A8 g8
              clear hK K k7 A8 g8 z8 hrs
              generalize L.set (r * 4 + s) (fullB o.b) = L' at *
              refine ZigS.zig_nil ?_
              go_wp2_with fail
              go_roundw
              case rel => exact ⟨k + 1, _, _, _, by omega, by go_num, k8, KI6, sq6⟩
              case measure => simp only [intOf]; omega
          · have hkI : ¬ (k : Int) < (l.length : Int) := by omega
            obtain ⟨hL, hU⟩ := KI.len
            have hL := Lib.hid hL
            have hU := Lib.hid hU
            cases all with
            | true =>
              have F := lit_ff5 wr
              have hb := F.b
              go_wp2_with (refine wp_want rfl fun K hK => ?_; first | (refine wp_rw_load (P := Try.prog) (k0.A.later hb) Try.underlying30 rfl (by rw [svs_size, hL.out]; exact infoG_size) rfl rfl ?_; refine hK _ _ ?_; clear hK K) | (refine wp_rw_store (P := Try.prog) (cs := svs L) (k0.A'.later hb) (by rw [svs_size, hL.out]; exact infoG_size) (by rw [svs_size, svs_size, hL.out, hU.out]) (by rw [Array.all_eq_true_iff_forall_mem]; intro u hu; exact svs_all L u (by simpa [svs] using hu)) rfl rfl rfl ?_))
              intro w6 A6 g6 z6
              refine hK _ _ ?_
              clear hK K
              have f0 := F.r0
              have f1 := F.r1
              have f2 := F.r2
              have fs := F.s
              have DZ6 := (k0.d.wide hb (fun j => Zk a1 a2 j ∨ (wr.heap.size ≤ j ∧ j < wr.heap.size + 3)) (fun j hj => hj.imp id And.left)).put g6 (.inl (.inr rfl)) (k0.A'.later hb) (by decide)
              have b6 := below_grown (k0.b.trans (hb.mono k0.b.size)) g6 (Nat.le_trans k0.b.size hb.size) k0.h2
              have na := k0.A'.lt
              have f0 := Frm.rd (Frm.of_grown (F := fun j => j = a2) g6 fun j hj => (Option.some.inj hj).symm) f0 (by omega)
              have f1 := Frm.rd (Frm.of_grown (F := fun j => j = a2) g6 fun j hj => (Option.some.inj hj).symm) f1 (by omega)
              have f2 := Frm.rd (Frm.of_grown (F := fun j => j = a2) g6 fun j hj => (Option.some.inj hj).symm) f2 (by omega)
              have kz := k0.z
              have ks := k0.size
              have hb6 : wr.heap.size + 3 = w6.heap.size := by omega
              have KX := KI.crashAll sq k0.d.1 (by omega)
              clear F hb g6 z6 fs
              have hk40 : k ≤ 100000 := by omega
              go_wp2_with fail
              refine (zCrash DZ6 (by rintro j (hj | hj); · have := kz j hj; omega
                                     · omega) (by omega) hk40 [FF5, FF5] _ ⟨[.slice (some ⟨wr.heap.size, 0, none⟩) 5 5, .slice (some ⟨wr.heap.size + 1, 0, none⟩) 5 5], rfl, fun w' f => ⟨f.rd f2 (.inr (by omega)), fun j h h' => ?_⟩⟩).mono ?_
              · match j, h with
                | 0, _ => exact f.rd f0 (.inr (by omega))
                | 1, _ => exact f.rd f1 (.inr (by omega))
              rintro ee w9 ⟨rfl, Dz9, c9⟩
              have A9 := c9.row A6 (.inl (.inr rfl))
              have b9 := b6.trans c9.1.1
              have d9 := Dz9.at_
              clear Dz9 c9 A6 b6 DZ6 f0 f1 f2 kz ks hb6 na
              clear KI sq k0
              generalize crashD D [FF5, FF5] = DD at *
              have hX := Lib.hid KX.len.1
              go_wp2_with fail
              go_loopw [14, 15, 16] (fun i _ _ wr => Ke3 w g a1 a2 k DD L L i wr) (fun i _ _ _ => 8 - (intOf i).toNat)
              case atStart => exact ⟨0, Nat.zero_le _, rfl, d9, A9, b9⟩
              case round =>
                clear d9 A9 b9
                rename World => wz
                obtain ⟨j, hj, rfl, d, A, b⟩ := hrel
                by_cases hj8 : j < 8
                · have hjI : (j : Int) < 8 := by omega
                  have hjU := Nat.lt_of_lt_of_eq hj8 hX.out.symm
                  obtain ⟨q, hq⟩ : ∃ q, q = j / 4 := ⟨_, rfl⟩
                  obtain ⟨s, hs⟩ : ∃ s, s = j % 4 := ⟨_, rfl⟩
                  have e8 : (j : Int) / 4 = (q : Int) := by omega
                  have e9 : (j : Int) % 4 = (s : Int) := by omega
                  have e8' : (j : Int).tdiv 4 = (q : Int) := by rw [Int.tdiv_eq_ediv_of_nonneg (by omega)]; exact e8
                  have e9' : (j : Int).tmod 4 = (s : Int) := by rw [Int.tmod_eq_emod_of_nonneg (by omega)]; exact e9
                  have g0 : (0 : Int) ≤ (q : Int) := by omega
                  have q2 : q < 2 := by omega
                  have s4 : s < 4 := by omega
                  have hqs : q * 4 + s = j := by omega
                  have hrd := KX.read q s q2 s4 (by rw [hX.out]; omega)
                  have hin := KX.inB q s q2 s4
                  have hcel := A.cell j (sv (L[j]'hjU)) (by simp only [svs, List.getElem?_toArray, List.getElem?_map]; rw [List.getElem?_eq_getElem (by rw [hX.out]; exact hj8)]; rfl)
                  have hrd' : readZ DD (q : Int) (s : Int) = (L[j]'hjU) := by rw [hrd]; congr 1
                  clear hq hs hrd
                  generalize (L[j]'hjU) = X at *
                  go_wp2_with fail
                  refine (dRead d (q : Int) (s : Int)).mono ?_
                  rintro ee r1 ⟨u1, rfl, o1, x1⟩
                  rw [hin, if_pos rfl, hrd'] at o1
                  rw [hin]
                  have d := d.below x1
                  have A := A.later x1
                  have b := b.trans (x1.mono b.size)
                  have hcel := cell_later x1 hcel
                  clear x1 hin hrd'
                  have q2I : (q : Int) < 2 := by omega
                  have s4I : (s : Int) < 4 := by omega
                  have ew : IntKind.i64.wrap (q : Int) = (q : Int) := IntWalk.i64_in _ (by omega)
                  unfold sv at hcel
                  have xc := fun y : RelyT.Lat r1.drew => cell_later y.2 (show r1.drew.cell? _ = _ from hcel)
                  have xs := fun y : RelyT.Lat r1.drew => run_string_of (P := Try.prog) ((o1.rd.drew).below y.2) 34 5 9 Try.underlying34 Try.underlying5 Try.underlying9
                  have hdr : Below r1.heap.size r1 r1.drew := (Below.refl _ _).drew
                  go_upto_region 31 with fail
                  refine RelyT.wp_region_rely 14 (by kernel_rfl) (by kernel_rfl) ?_
                  simp only [List.take_succ_cons, List.take_zero]
                  generalize World.drew r1 = wd at *
                  repeat (first
                    | (refine RelyT.wpR_step0 ?_ ?_ (fun K hK => ?_); rfl; rfl; go_simp; refine hK _ ?_; clear hK K))
                  refine RelyT.wpR_nil fun x => ?_
                  obtain ⟨we, web⟩ := x
                  simp only [RelyT.close, List.drop_succ_cons, List.drop_zero]
                  have hdr := hdr.trans (web.mono hdr.size)
                  have d := d.below hdr
                  have A := A.later hdr
                  have b := b.trans (hdr.mono b.size)
                  clear xc xs web hdr hcel o1
                  go_wp2_with fail
                  go_roundw
                  case rel => exact ⟨j + 1, by omega, by go_num, d, A, b⟩
                  case measure => simp only [intOf]; omega
                · have hjI : ¬ (j : Int) < 8 := by omega
                  go_wp2_with fail
                  go_ret
                  exact ⟨rfl, b⟩
            | false =>
              have KX := KI.crash
              have hk40 : k ≤ 100000 := by omega
              have ks := k0.size
              go_wp2_with fail
              refine (zCrash k0.d k0.z ks hk40 [] _ ⟨[], rfl, fun w' f => ⟨Rd.nil w', fun j h => by simp at h⟩⟩).mono ?_
              rintro ee w9 ⟨rfl, Dz9, c9⟩
              have A9 := c9.row k0.A' (.inr rfl)
              have b9 := k0.b.trans c9.1.1
              have d9 := Dz9.at_
              clear Dz9 c9 ks
              clear KI sq k0
              generalize crashD D [] = DD at *
              have hX := Lib.hid KX.len.1
              go_wp2_with fail
              go_loopw [14, 15, 16] (fun i _ _ wr => Ke3 w g a1 a2 k DD U U i wr) (fun i _ _ _ => 8 - (intOf i).toNat)
              case atStart => exact ⟨0, Nat.zero_le _, rfl, d9, A9, b9⟩
              case round =>
                clear d9 A9 b9
                rename World => wz
                obtain ⟨j, hj, rfl, d, A, b⟩ := hrel
                by_cases hj8 : j < 8
                · have hjI : (j : Int) < 8 := by omega
                  have hjU := Nat.lt_of_lt_of_eq hj8 hX.out.symm
                  obtain ⟨q, hq⟩ : ∃ q, q = j / 4 := ⟨_, rfl⟩
                  obtain ⟨s, hs⟩ : ∃ s, s = j % 4 := ⟨_, rfl⟩
                  have e8 : (j : Int) / 4 = (q : Int) := by omega
                  have e9 : (j : Int) % 4 = (s : Int) := by omega
                  have e8' : (j : Int).tdiv 4 = (q : Int) := by rw [Int.tdiv_eq_ediv_of_nonneg (by omega)]; exact e8
                  have e9' : (j : Int).tmod 4 = (s : Int) := by rw [Int.tmod_eq_emod_of_nonneg (by omega)]; exact e9
                  have g0 : (0 : Int) ≤ (q : Int) := by omega
                  have q2 : q < 2 := by omega
                  have s4 : s < 4 := by omega
                  have hqs : q * 4 + s = j := by omega
                  have hrd := KX.read q s q2 s4 (by rw [hX.out]; omega)
                  have hin := KX.inB q s q2 s4
                  have hcel := A.cell j (sv (U[j]'hjU)) (by simp only [svs, List.getElem?_toArray, List.getElem?_map]; rw [List.getElem?_eq_getElem (by rw [hX.out]; exact hj8)]; rfl)
                  have hrd' : readZ DD (q : Int) (s : Int) = (U[j]'hjU) := by rw [hrd]; congr 1
                  clear hq hs hrd
                  generalize (U[j]'hjU) = X at *
                  go_wp2_with fail
                  refine (dRead d (q : Int) (s : Int)).mono ?_
                  rintro ee r1 ⟨u1, rfl, o1, x1⟩
                  rw [hin, if_pos rfl, hrd'] at o1
                  rw [hin]
                  have d := d.below x1
                  have A := A.later x1
                  have b := b.trans (x1.mono b.size)
                  have hcel := cell_later x1 hcel
                  clear x1 hin hrd'
                  have q2I : (q : Int) < 2 := by omega
                  have s4I : (s : Int) < 4 := by omega
                  have ew : IntKind.i64.wrap (q : Int) = (q : Int) := IntWalk.i64_in _ (by omega)
                  unfold sv at hcel
                  have xc := fun y : RelyT.Lat r1.drew => cell_later y.2 (show r1.drew.cell? _ = _ from hcel)
                  have xs := fun y : RelyT.Lat r1.drew => run_string_of (P := Try.prog) ((o1.rd.drew).below y.2) 34 5 9 Try.underlying34 Try.underlying5 Try.underlying9
                  have hdr : Below r1.heap.size r1 r1.drew := (Below.refl _ _).drew
                  go_upto_region 31 with fail
                  refine RelyT.wp_region_rely 14 (by kernel_rfl) (by kernel_rfl) ?_
                  simp only [List.take_succ_cons, List.take_zero]
                  generalize World.drew r1 = wd at *
                  repeat (first
                    | (refine RelyT.wpR_step0 ?_ ?_ (fun K hK => ?_); rfl; rfl; go_simp; refine hK _ ?_; clear hK K))
                  refine RelyT.wpR_nil fun x => ?_
                  obtain ⟨we, web⟩ := x
                  simp only [RelyT.close, List.drop_succ_cons, List.drop_zero]
                  have hdr := hdr.trans (web.mono hdr.size)
                  have d := d.below hdr
                  have A := A.later hdr
                  have b := b.trans (hdr.mono b.size)
                  clear xc xs web hdr hcel o1
                  go_wp2_with fail
                  go_roundw
                  case rel => exact ⟨j + 1, by omega, by go_num, d, A, b⟩
                  case measure => simp only [intOf]; omega
                · have hjI : ¬ (j : Int) < 8 := by omega
                  go_wp2_with fail
                  go_ret
                  exact ⟨rfl, b⟩
  · have hlI : (40 : Int) < (l.length : Int) := by omega
    go_wp2_with fail
    go_ret
    exact ⟨rfl, b1⟩
end Go.Proofs.Ytbagicjimfhmeaa.Cl
