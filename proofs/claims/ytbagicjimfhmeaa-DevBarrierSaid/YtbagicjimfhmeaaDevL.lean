/- The law DevCopies. -/
import Derived.Test.YtbagicjimfhmeaaDevM
import Derived.Test.YtbagicjimfhmeaaRelyT
set_option linter.unusedVariables false
set_option linter.unusedSimpArgs false
namespace Go.Proofs.Ytbagicjimfhmeaa.Cl
open Go Go.Proofs Go.RowKit Fl

theorem DeedAt.q0 {w : World} {ad : Addr} {o : Deed} (h : DeedAt w ad o) : w.cell? ad = some (.int .i64 o.kind) := h.c0
theorem DeedAt.q1 {w : World} {ad : Addr} {o : Deed} (h : DeedAt w ad o) : w.cell? { ad with off := ad.off + 1, spot := none } = some (.int .i64 o.region) := h.c1
theorem DeedAt.q2 {w : World} {ad : Addr} {o : Deed} (h : DeedAt w ad o) : w.cell? { ad with off := ad.off + 2, spot := none } = some (.int .i64 o.i) := h.c2
theorem DeedAt.q4 {w : World} {ad : Addr} {o : Deed} (h : DeedAt w ad o) : w.cell? { ad with off := ad.off + 4, spot := none } = some o.bv := h.c4
def CoRel (w : World) (g m : Nat) (l : List Deed) (c i : Value) (wr : World) : Prop := ∃ (k : Nat) (D : Dv), k ≤ l.length ∧ i = .int .i64 (k : Int) ∧ lens D = [4, 4] ∧ D.2 = -1 ∧ Seq D ∧ Below w.heap.size w wr ∧
  ((k ≤ m ∧ c = .pointer none ∧ DAt w.heap.size wr g k D) ∨ (m < k ∧ ∃ g2, c = ptr g2 ∧ Two w.heap.size wr g k D g2 k D))
theorem copies_end {D : Dv} {k : Nat} (ok : DOk k D) (hk : k ≤ 40) (L4 : lens D = [4, 4]) (Lm : D.2 = -1) (SQ : Seq D) (F : List UInt8) (keep : List (List UInt8)) :
    seens (crashD (barrierZ (barrierZ (writeZ D 0 0 F) 0) 1) keep) = seens (crashD (writeZ D 0 0 F) [FF6, FF6]) ∧ lens (crashD (barrierZ (barrierZ (writeZ D 0 0 F) 0) 1) keep) = [4, 4] := by
  have W4 : lens (writeZ D 0 0 F) = [4, 4] := (lens_writeZ _ _ _ _).trans L4
  have Wm := left_writeZ Lm 0 0 F
  have oW := ok.writeZ 0 0 F
  have e1 : seens (crashD (barrierZ (barrierZ (writeZ D 0 0 F) 0) 1) keep) = seens (writeZ D 0 0 F) := by
    rw [seens_crash_sure _ (sure_two W4 Wm), (lens_barrierZ _ _).2, (lens_barrierZ _ _).2]
  have e2 : seens (crashD (writeZ D 0 0 F) [FF6, FF6]) = seens (writeZ D 0 0 F) := by
    refine seens_crash_all _ (SQ.writeZ 0 0 F) fun i R hi j hj => ?_
    have hlt := (List.getElem?_eq_some_iff.1 hi).1
    have hl2 : (writeZ D 0 0 F).1.length = 2 := by
      have := congrArg List.length W4
      simpa [lens] using this
    have := (oW.rg R (List.mem_of_getElem? hi)).ln
    have hg : ([FF6, FF6] : List (List UInt8)).getD i [] = FF6 := by
      match i, (show i < 2 by omega) with
      | 0, _ => rfl
      | 1, _ => rfl
    rw [hg]
    exact ff6 j (by omega)
  refine ⟨e1.trans e2.symm, ?_⟩
  rw [lens_seens e1, W4]
def CoEnd (w : World) (g g2 n : Nat) (D C : Dv) (i : Value) (wr : World) : Prop := ∃ j : Nat, j ≤ 8 ∧ i = .int .i64 (j : Int) ∧ Two w.heap.size wr g n D g2 n C ∧ Below w.heap.size w wr
set_option maxRecDepth 100000 in
set_option maxHeartbeats 4000000 in
theorem devCopies_core (x m : Nat) (hx : x < 256) (l : List Deed) (kv : Value) (keep : List (List UInt8)) (v : Value) (w : World) (hl : RdDs w v l) (hk : RdTx w kv keep) (hm : m = min x l.length) :
    Calls Try.prog 6 #[v, .int .u8 (x : Int), kv] w fun e w' => e = .returned (.bool true) ∧ Below w.heap.size w w' := by
  have HL := Lib.hid hl
  have HK := Lib.hid hk
  obtain ⟨a0, cap, rfl, hc1, hc2, hds⟩ := hl
  obtain ⟨sl, ⟨ak, ck, ek, hk1, hk2, _⟩, hsl, _⟩ := hk
  have ekl : sl.length = keep.length := hsl
  rw [ekl] at ek
  subst ek
  have Hm := Lib.hid hm
  have hml : m ≤ l.length := by omega
  clear hm hsl
  go_enter Try.func6, Try.ntmps6
  go_wp2_with fail
  refine (devBegun_any w).mono ?_
  rintro e w1 ⟨rfl, b1⟩
  by_cases hlen : l.length ≤ 40
  · have hlI : ¬ (40 : Int) < (l.length : Int) := by omega
    by_cases hkl : keep.length ≤ 5
    · have hkI : ¬ (5 : Int) < (keep.length : Int) := by omega
      go_wp2_with fail
      refine (dNew1 w1 w.heap.size #[.int .i64 4, .int .i64 4] [4, 4] 2 rfl rfl (by unfold okS; decide) b1.size).mono ?_
      rintro e w2 ⟨g, rfl, d2, bx⟩
      have d2 : DAt w.heap.size w2 g 0 (newD [4, 4]) := d2
      have b2 := b1.trans (bx.mono b1.size)
      clear bx b1
      go_wp2_with fail
      go_loopw [9, 10, 11] (fun c i _ wr => CoRel w g m l c i wr) (fun _ i _ _ => l.length + 1 - (intOf i).toNat)
      case atStart => exact ⟨0, newD [4, 4], Nat.zero_le _, rfl, by simp [lens, newD, newR], rfl, Seq.new _, b2, .inl ⟨Nat.zero_le _, rfl, d2⟩⟩
      case round =>
        clear b2 d2
        obtain ⟨k, D, hk, rfl, L4, Lm, SQ, b, hcase⟩ := hrel
        have hkI : (k : Int) ≤ (l.length : Int) := by omega
        have Q := Hm.out
        rcases hcase with ⟨hkm, rfl, d⟩ | ⟨hkm, g2, rfl, T⟩
        · by_cases e : k = m
          · subst e
            by_cases hxl : x ≤ l.length
            · have hxI : (x : Int) ≤ (l.length : Int) := by omega
              obtain rfl : k = x := by omega
              clear Q
              go_wp2_with fail
              refine (dCopy d (by omega)).mono ?_
              rintro ee wc ⟨g2, rfl, dc, bx⟩
              have T := Two.mk' d bx dc b.size
              have b := b.trans (bx.mono b.size)
              clear bx dc d
              by_cases hkl' : k < l.length
              · have hkl : ¬ (k : Int) = (l.length : Int) := by omega
                obtain ⟨ad, rfl, D0⟩ := hds k hkl'
                have hD := D0.below (show Below w.heap.size w wc from b)
                have hkL : (k : Int) < (l.length : Int) := by omega
                obtain ⟨o, ho⟩ : ∃ o, o = l[k] := ⟨_, rfl⟩
                rw [← ho] at D0 hD
                have q1 := hD.q1
                have q2 := hD.q2
                have q4 := hD.q4
                have qb := hD.rb
                have e1 := i64_and1 o.region
                have e2 := i64_and3 o.i
                have e3 : (0 : Int) ≤ o.region % 2 := by omega
                clear hD ho
                go_wp2_with fail
                refine (dFull _ o.b wc qb).mono ?_
                rintro ee wf ⟨g4, rfl, y4, bf⟩
                have T := T.below bf
                have b := b.trans (bf.mono b.size)
                have q1 := cell_later bf q1
                have q2 := cell_later bf q2
                clear q4 qb
                skip
                have x1 := fun y : RelyT.Lat wf.drew => cell_later y.2 (show wf.drew.cell? _ = _ from q1)
                have x2 := fun y : RelyT.Lat wf.drew => cell_later y.2 (show wf.drew.cell? _ = _ from q2)
                have hdr : Below wf.heap.size wf wf.drew := (Below.refl _ _).drew
                go_upto_region 18 with fail
                refine RelyT.wp_region_rely 14 (by kernel_rfl) (by kernel_rfl) ?_
                simp only [List.take_succ_cons, List.take_zero]
                generalize World.drew wf = wd1 at *
                repeat (first
                  | (refine RelyT.wpR_step0 ?_ ?_ (fun K hK => ?_); rfl; rfl; go_simp; refine hK _ ?_; clear hK K))
                refine RelyT.wpR_nil fun x => ?_
                obtain ⟨we1, we1b⟩ := x
                simp only [RelyT.close, List.drop_succ_cons, List.drop_zero]
                have hdr := hdr.trans (we1b.mono hdr.size)
                clear x1 x2 we1b
                have y4 := y4.below hdr
                have b := b.trans (hdr.mono b.size)
                have q1 := cell_later hdr q1
                have q2 := cell_later hdr q2
                have T := T.below hdr
                clear hdr
                go_wp2_with fail
                refine (tWrite T b.size (by omega) (o.region % 2) (o.i % 4) _ (fullB o.b) (y4.lb _)).mono ?_
                rintro ee wg ⟨rfl, T', c'⟩
                have b := b.trans c'.1
                have y4 := y4.keep c'.2
                have hqq := c'.1
                have hD2 := D0.below b
                have q1 := hD2.q1
                have q2 := hD2.q2
                clear T c' hD2 hqq
                go_wp2_with fail
                have x1 := fun y : RelyT.Lat wg.drew => cell_later y.2 (show wg.drew.cell? _ = _ from q1)
                have x2 := fun y : RelyT.Lat wg.drew => cell_later y.2 (show wg.drew.cell? _ = _ from q2)
                have hdr : Below wg.heap.size wg wg.drew := (Below.refl _ _).drew
                go_upto_region 20 with fail
                refine RelyT.wp_region_rely 14 (by kernel_rfl) (by kernel_rfl) ?_
                simp only [List.take_succ_cons, List.take_zero]
                generalize World.drew wg = wd2 at *
                repeat (first
                  | (refine RelyT.wpR_step0 ?_ ?_ (fun K hK => ?_); rfl; rfl; go_simp; refine hK _ ?_; clear hK K))
                refine RelyT.wpR_nil fun x => ?_
                obtain ⟨we2, we2b⟩ := x
                simp only [RelyT.close, List.drop_succ_cons, List.drop_zero]
                have hdr := hdr.trans (we2b.mono hdr.size)
                clear x1 x2 we2b
                have y4 := y4.below hdr
                have b := b.trans (hdr.mono b.size)
                have q1 := cell_later hdr q1
                have q2 := cell_later hdr q2
                have T' := T'.below hdr
                clear hdr
                go_wp2_with fail
                refine (tWrite T'.swap b.size (by omega) (o.region % 2) (o.i % 4) _ (fullB o.b) (y4.lb _)).mono ?_
                rintro ee wh ⟨rfl, T2, c2⟩
                have b := b.trans c2.1
                have T2 := T2.swap
                clear T' y4 c2 q1 q2
                go_wp2_with fail
                go_roundw
                case rel => exact ⟨k + 1, _, by omega, by go_num, (lens_writeZ _ _ _ _).trans L4, left_writeZ Lm _ _ _, SQ.writeZ _ _ _, b, .inr ⟨by omega, g2, rfl, T2⟩⟩
                case measure => simp only [intOf]; omega
              · have hkl : (k : Int) = (l.length : Int) := by omega
                obtain ⟨p1, p2⟩ := copies_end T.ok1 (by omega) L4 Lm SQ (fullB [1, 2]) keep
                have p1 := Lib.hid p1
                have p2 := Lib.hid p2
                go_wp2_with fail
                refine (dFull2 wc 1 2 1 2 rfl rfl).mono ?_
                rintro ee v1 ⟨h1, rfl, y1, f1⟩
                have T := T.below f1
                have b := b.trans (f1.mono b.size)
                clear f1
                go_wp2_with fail
                refine (tWrite T b.size (by omega) 0 0 _ (fullB [1, 2]) (y1.lb _)).mono ?_
                rintro ee v2 ⟨rfl, T2, c2⟩
                have b := b.trans c2.1
                clear c2
                clear T y1
                go_wp2_with fail
                refine (tBarrier T2 b.size (by omega) 0).mono ?_
                rintro ee v3 ⟨rfl, T3, c3⟩
                have b := b.trans c3.1
                clear c3
                clear T2
                go_wp2_with fail
                refine (tBarrier T3 b.size (by omega) 1).mono ?_
                rintro ee v4 ⟨rfl, T4, c4⟩
                have b := b.trans c4.1
                clear c4
                clear T3
                go_wp2_with fail
                refine (dFull2 v4 1 2 1 2 rfl rfl).mono ?_
                rintro ee v5 ⟨h5, rfl, y5, f5⟩
                have T5 := T4.below f5
                have b := b.trans (f5.mono b.size)
                clear f5 T4
                go_wp2_with fail
                refine (tWrite T5.swap b.size (by omega) 0 0 _ (fullB [1, 2]) (y5.lb _)).mono ?_
                rintro ee v6 ⟨rfl, T6, c6⟩
                have b := b.trans c6.1
                clear c6
                clear T5 y5
                go_wp2_with fail
                refine (tCrashFF T6 b.size (by omega) _ _ _ (by first | rfl | simp) (by first | rfl | simp) (by first | rfl | simp)).mono ?_
                rintro ee v7 ⟨rfl, T7, c7⟩
                have b := b.trans c7.1
                clear c7
                clear T6
                go_wp2_with fail
                refine (tCrash T7.swap b.size (by omega) keep _ ((LBL.of_rd HK.out).ch (Ch.of_below b (Nat.le_refl _)))).mono ?_
                rintro ee v8 ⟨rfl, T8, c8⟩
                have b := b.trans c8.1
                clear c8
                have T8 := T8.mono (Nat.le_refl _) (show k + 1 ≤ k + 1 + 1 + 1 by omega)
                clear T7
                generalize crashD (barrierZ (barrierZ (writeZ D 0 0 (fullB [1, 2])) 0) 1) keep = DD at *
                generalize crashD (writeZ D 0 0 (fullB [1, 2])) [FF6, FF6] = DC at *
                go_wp2_with fail
                go_loopw [12, 13, 14, 15, 16] (fun i _ _ _ _ wx => CoEnd w g g2 (k + 1 + 1 + 1) DD DC i wx) (fun i _ _ _ _ _ => 8 - (intOf i).toNat)
                case atStart => exact ⟨0, Nat.zero_le _, rfl, T8, b⟩
                case round =>
                  clear T8 b
                  obtain ⟨j, hj, rfl, T, b⟩ := hrel
                  by_cases hj8 : j < 8
                  · have hjI : (j : Int) < 8 := by omega
                    obtain ⟨q, hq⟩ : ∃ q, q = j / 4 := ⟨_, rfl⟩
                    obtain ⟨s, hs⟩ : ∃ s, s = j % 4 := ⟨_, rfl⟩
                    have e8 : (j : Int) / 4 = (q : Int) := by omega
                    have e9 : (j : Int) % 4 = (s : Int) := by omega
                    have e8' : (j : Int).tdiv 4 = (q : Int) := by rw [Int.tdiv_eq_ediv_of_nonneg (by omega)]; exact e8
                    have e9' : (j : Int).tmod 4 = (s : Int) := by rw [Int.tmod_eq_emod_of_nonneg (by omega)]; exact e9
                    have g0 : (0 : Int) ≤ (q : Int) := by omega
                    have q2 : q < 2 := by omega
                    have s4 : s < 4 := by omega
                    clear hq hs
                    have hin : inB DD (q : Int) (s : Int) = true := by
                      rw [inB_lens p2.out]
                      match q, q2 with
                      | 0, _ => simpa using s4
                      | 1, _ => simpa using s4
                    have hin2 : inB DC (q : Int) (s : Int) = true := by
                      rw [inB_lens ((lens_seens p1.out).symm.trans p2.out)]
                      match q, q2 with
                      | 0, _ => simpa using s4
                      | 1, _ => simpa using s4
                    have hrd := readZ_seens p1.out (q : Int) (s : Int)
                    have h64 := readZ_len T.ok1 _ _ hin
                    go_wp2_with fail
                    refine (dRead T.fst (q : Int) (s : Int)).mono ?_
                    rintro ee r1 ⟨u1, rfl, o1, x1⟩
                    rw [hin, if_pos rfl] at o1
                    rw [hin]
                    have T := T.below x1
                    have b := b.trans (x1.mono b.size)
                    clear x1
                    go_wp2_with fail
                    refine (dRead T.snd (q : Int) (s : Int)).mono ?_
                    rintro ee r2 ⟨u2, rfl, o2, x2⟩
                    rw [hin2, if_pos rfl, ← hrd] at o2
                    rw [hin2]
                    have T := T.below x2
                    have b := b.trans (x2.mono b.size)
                    have o1 := o1.below x2
                    clear x2 hrd hin hin2
                    generalize readZ DD (q : Int) (s : Int) = X at *
                    have hs1 := run_string_of (P := Try.prog) o1.rd 34 5 9 Try.underlying34 Try.underlying5 Try.underlying9
                    have hs2 := run_string_of (P := Try.prog) o2.rd 34 5 9 Try.underlying34 Try.underlying5 Try.underlying9
                    obtain ⟨a1, k1, eq1, _⟩ := o1.rd
                    rw [bs_length, h64] at eq1
                    subst eq1
                    clear o1 o2 h64
                    go_wp2_with fail
                    go_roundw
                    case rel => exact ⟨j + 1, by omega, by go_num, T, b⟩
                    case measure => simp only [intOf]; omega
                  · have hjI : ¬ (j : Int) < 8 := by omega
                    go_wp2_with fail
                    go_ret
                    exact ⟨rfl, b⟩
            · have hxI : ¬ (x : Int) ≤ (l.length : Int) := by omega
              have hkl : (k : Int) = (l.length : Int) := by omega
              clear Q
              go_wp2_with fail
              refine (dCopy d (by omega)).mono ?_
              rintro ee wc ⟨g2, rfl, dc, bx⟩
              have T := Two.mk' d bx dc b.size
              have b := b.trans (bx.mono b.size)
              clear bx dc d
              obtain ⟨p1, p2⟩ := copies_end T.ok1 (by omega) L4 Lm SQ (fullB [1, 2]) keep
              have p1 := Lib.hid p1
              have p2 := Lib.hid p2
              go_wp2_with fail
              refine (dFull2 wc 1 2 1 2 rfl rfl).mono ?_
              rintro ee v1 ⟨h1, rfl, y1, f1⟩
              have T := T.below f1
              have b := b.trans (f1.mono b.size)
              clear f1
              go_wp2_with fail
              refine (tWrite T b.size (by omega) 0 0 _ (fullB [1, 2]) (y1.lb _)).mono ?_
              rintro ee v2 ⟨rfl, T2, c2⟩
              have b := b.trans c2.1
              clear c2
              clear T y1
              go_wp2_with fail
              refine (tBarrier T2 b.size (by omega) 0).mono ?_
              rintro ee v3 ⟨rfl, T3, c3⟩
              have b := b.trans c3.1
              clear c3
              clear T2
              go_wp2_with fail
              refine (tBarrier T3 b.size (by omega) 1).mono ?_
              rintro ee v4 ⟨rfl, T4, c4⟩
              have b := b.trans c4.1
              clear c4
              clear T3
              go_wp2_with fail
              refine (dFull2 v4 1 2 1 2 rfl rfl).mono ?_
              rintro ee v5 ⟨h5, rfl, y5, f5⟩
              have T5 := T4.below f5
              have b := b.trans (f5.mono b.size)
              clear f5 T4
              go_wp2_with fail
              refine (tWrite T5.swap b.size (by omega) 0 0 _ (fullB [1, 2]) (y5.lb _)).mono ?_
              rintro ee v6 ⟨rfl, T6, c6⟩
              have b := b.trans c6.1
              clear c6
              clear T5 y5
              go_wp2_with fail
              refine (tCrashFF T6 b.size (by omega) _ _ _ (by first | rfl | simp) (by first | rfl | simp) (by first | rfl | simp)).mono ?_
              rintro ee v7 ⟨rfl, T7, c7⟩
              have b := b.trans c7.1
              clear c7
              clear T6
              go_wp2_with fail
              refine (tCrash T7.swap b.size (by omega) keep _ ((LBL.of_rd HK.out).ch (Ch.of_below b (Nat.le_refl _)))).mono ?_
              rintro ee v8 ⟨rfl, T8, c8⟩
              have b := b.trans c8.1
              clear c8
              have T8 := T8.mono (Nat.le_refl _) (show k + 1 ≤ k + 1 + 1 + 1 by omega)
              clear T7
              generalize crashD (barrierZ (barrierZ (writeZ D 0 0 (fullB [1, 2])) 0) 1) keep = DD at *
              generalize crashD (writeZ D 0 0 (fullB [1, 2])) [FF6, FF6] = DC at *
              go_wp2_with fail
              go_loopw [12, 13, 14, 15, 16] (fun i _ _ _ _ wx => CoEnd w g g2 (k + 1 + 1 + 1) DD DC i wx) (fun i _ _ _ _ _ => 8 - (intOf i).toNat)
              case atStart => exact ⟨0, Nat.zero_le _, rfl, T8, b⟩
              case round =>
                clear T8 b
                obtain ⟨j, hj, rfl, T, b⟩ := hrel
                by_cases hj8 : j < 8
                · have hjI : (j : Int) < 8 := by omega
                  obtain ⟨q, hq⟩ : ∃ q, q = j / 4 := ⟨_, rfl⟩
                  obtain ⟨s, hs⟩ : ∃ s, s = j % 4 := ⟨_, rfl⟩
                  have e8 : (j : Int) / 4 = (q : Int) := by omega
                  have e9 : (j : Int) % 4 = (s : Int) := by omega
                  have e8' : (j : Int).tdiv 4 = (q : Int) := by rw [Int.tdiv_eq_ediv_of_nonneg (by omega)]; exact e8
                  have e9' : (j : Int).tmod 4 = (s : Int) := by rw [Int.tmod_eq_emod_of_nonneg (by omega)]; exact e9
                  have g0 : (0 : Int) ≤ (q : Int) := by omega
                  have q2 : q < 2 := by omega
                  have s4 : s < 4 := by omega
                  clear hq hs
                  have hin : inB DD (q : Int) (s : Int) = true := by
                    rw [inB_lens p2.out]
                    match q, q2 with
                    | 0, _ => simpa using s4
                    | 1, _ => simpa using s4
                  have hin2 : inB DC (q : Int) (s : Int) = true := by
                    rw [inB_lens ((lens_seens p1.out).symm.trans p2.out)]
                    match q, q2 with
                    | 0, _ => simpa using s4
                    | 1, _ => simpa using s4
                  have hrd := readZ_seens p1.out (q : Int) (s : Int)
                  have h64 := readZ_len T.ok1 _ _ hin
                  go_wp2_with fail
                  refine (dRead T.fst (q : Int) (s : Int)).mono ?_
                  rintro ee r1 ⟨u1, rfl, o1, x1⟩
                  rw [hin, if_pos rfl] at o1
                  rw [hin]
                  have T := T.below x1
                  have b := b.trans (x1.mono b.size)
                  clear x1
                  go_wp2_with fail
                  refine (dRead T.snd (q : Int) (s : Int)).mono ?_
                  rintro ee r2 ⟨u2, rfl, o2, x2⟩
                  rw [hin2, if_pos rfl, ← hrd] at o2
                  rw [hin2]
                  have T := T.below x2
                  have b := b.trans (x2.mono b.size)
                  have o1 := o1.below x2
                  clear x2 hrd hin hin2
                  generalize readZ DD (q : Int) (s : Int) = X at *
                  have hs1 := run_string_of (P := Try.prog) o1.rd 34 5 9 Try.underlying34 Try.underlying5 Try.underlying9
                  have hs2 := run_string_of (P := Try.prog) o2.rd 34 5 9 Try.underlying34 Try.underlying5 Try.underlying9
                  obtain ⟨a1, k1, eq1, _⟩ := o1.rd
                  rw [bs_length, h64] at eq1
                  subst eq1
                  clear o1 o2 h64
                  go_wp2_with fail
                  go_roundw
                  case rel => exact ⟨j + 1, by omega, by go_num, T, b⟩
                  case measure => simp only [intOf]; omega
                · have hjI : ¬ (j : Int) < 8 := by omega
                  go_wp2_with fail
                  go_ret
                  exact ⟨rfl, b⟩
          · have hkl' : k < l.length := by omega
            have hkl : ¬ (k : Int) = (l.length : Int) := by omega
            by_cases hxl : x ≤ l.length
            · have hxI : (x : Int) ≤ (l.length : Int) := by omega
              have hkx : ¬ (k : Int) = (x : Int) := by omega
              clear Q
              obtain ⟨ad, rfl, D0⟩ := hds k hkl'
              have hD := D0.below (show Below w.heap.size w wr from b)
              have hkL : (k : Int) < (l.length : Int) := by omega
              obtain ⟨o, ho⟩ : ∃ o, o = l[k] := ⟨_, rfl⟩
              rw [← ho] at D0 hD
              have q1 := hD.q1
              have q2 := hD.q2
              have q4 := hD.q4
              have qb := hD.rb
              have e1 := i64_and1 o.region
              have e2 := i64_and3 o.i
              have e3 : (0 : Int) ≤ o.region % 2 := by omega
              clear hD ho
              go_wp2_with fail
              refine (dFull _ o.b wr qb).mono ?_
              rintro ee wf ⟨g4, rfl, y4, bf⟩
              have d := d.below bf
              have b := b.trans (bf.mono b.size)
              have q1 := cell_later bf q1
              have q2 := cell_later bf q2
              clear q4 qb
              skip
              have x1 := fun y : RelyT.Lat wf.drew => cell_later y.2 (show wf.drew.cell? _ = _ from q1)
              have x2 := fun y : RelyT.Lat wf.drew => cell_later y.2 (show wf.drew.cell? _ = _ from q2)
              have hdr : Below wf.heap.size wf wf.drew := (Below.refl _ _).drew
              go_upto_region 18 with fail
              refine RelyT.wp_region_rely 14 (by kernel_rfl) (by kernel_rfl) ?_
              simp only [List.take_succ_cons, List.take_zero]
              generalize World.drew wf = wd1 at *
              repeat (first
                | (refine RelyT.wpR_step0 ?_ ?_ (fun K hK => ?_); rfl; rfl; go_simp; refine hK _ ?_; clear hK K))
              refine RelyT.wpR_nil fun x => ?_
              obtain ⟨we1, we1b⟩ := x
              simp only [RelyT.close, List.drop_succ_cons, List.drop_zero]
              have hdr := hdr.trans (we1b.mono hdr.size)
              clear x1 x2 we1b
              have y4 := y4.below hdr
              have b := b.trans (hdr.mono b.size)
              have q1 := cell_later hdr q1
              have q2 := cell_later hdr q2
              have d := d.below hdr
              clear hdr
              go_wp2_with fail
              refine (dWrite d b.size (by omega) (o.region % 2) (o.i % 4) _ (fullB o.b) (y4.lb _)).mono ?_
              rintro ee wg ⟨rfl, d', c'⟩
              have b := b.trans c'.1
              clear y4 c' d q1 q2
              go_wp2_with fail
              go_roundw
              case rel => exact ⟨k + 1, _, by omega, by go_num, (lens_writeZ _ _ _ _).trans L4, left_writeZ Lm _ _ _, SQ.writeZ _ _ _, b, .inl ⟨by omega, rfl, d'⟩⟩
              case measure => simp only [intOf]; omega
            · have hxI : ¬ (x : Int) ≤ (l.length : Int) := by omega
              clear Q
              obtain ⟨ad, rfl, D0⟩ := hds k hkl'
              have hD := D0.below (show Below w.heap.size w wr from b)
              have hkL : (k : Int) < (l.length : Int) := by omega
              obtain ⟨o, ho⟩ : ∃ o, o = l[k] := ⟨_, rfl⟩
              rw [← ho] at D0 hD
              have q1 := hD.q1
              have q2 := hD.q2
              have q4 := hD.q4
              have qb := hD.rb
              have e1 := i64_and1 o.region
              have e2 := i64_and3 o.i
              have e3 : (0 : Int) ≤ o.region % 2 := by omega
              clear hD ho
              go_wp2_with fail
              refine (dFull _ o.b wr qb).mono ?_
              rintro ee wf ⟨g4, rfl, y4, bf⟩
              have d := d.below bf
              have b := b.trans (bf.mono b.size)
              have q1 := cell_later bf q1
              have q2 := cell_later bf q2
              clear q4 qb
              skip
              have x1 := fun y : RelyT.Lat wf.drew => cell_later y.2 (show wf.drew.cell? _ = _ from q1)
              have x2 := fun y : RelyT.Lat wf.drew => cell_later y.2 (show wf.drew.cell? _ = _ from q2)
              have hdr : Below wf.heap.size wf wf.drew := (Below.refl _ _).drew
              go_upto_region 18 with fail
              refine RelyT.wp_region_rely 14 (by kernel_rfl) (by kernel_rfl) ?_
              simp only [List.take_succ_cons, List.take_zero]
              generalize World.drew wf = wd1 at *
              repeat (first
                | (refine RelyT.wpR_step0 ?_ ?_ (fun K hK => ?_); rfl; rfl; go_simp; refine hK _ ?_; clear hK K))
              refine RelyT.wpR_nil fun x => ?_
              obtain ⟨we1, we1b⟩ := x
              simp only [RelyT.close, List.drop_succ_cons, List.drop_zero]
              have hdr := hdr.trans (we1b.mono hdr.size)
              clear x1 x2 we1b
              have y4 := y4.below hdr
              have b := b.trans (hdr.mono b.size)
              have q1 := cell_later hdr q1
              have q2 := cell_later hdr q2
              have d := d.below hdr
              clear hdr
              go_wp2_with fail
              refine (dWrite d b.size (by omega) (o.region % 2) (o.i % 4) _ (fullB o.b) (y4.lb _)).mono ?_
              rintro ee wg ⟨rfl, d', c'⟩
              have b := b.trans c'.1
              clear y4 c' d q1 q2
              go_wp2_with fail
              go_roundw
              case rel => exact ⟨k + 1, _, by omega, by go_num, (lens_writeZ _ _ _ _).trans L4, left_writeZ Lm _ _ _, SQ.writeZ _ _ _, b, .inl ⟨by omega, rfl, d'⟩⟩
              case measure => simp only [intOf]; omega
        · have hxl : x ≤ l.length := by omega
          have hxI : (x : Int) ≤ (l.length : Int) := by omega
          have hkx : ¬ (k : Int) = (x : Int) := by omega
          clear Q
          by_cases hkl' : k < l.length
          · have hkl : ¬ (k : Int) = (l.length : Int) := by omega
            obtain ⟨ad, rfl, D0⟩ := hds k hkl'
            have hD := D0.below (show Below w.heap.size w wr from b)
            have hkL : (k : Int) < (l.length : Int) := by omega
            obtain ⟨o, ho⟩ : ∃ o, o = l[k] := ⟨_, rfl⟩
            rw [← ho] at D0 hD
            have q1 := hD.q1
            have q2 := hD.q2
            have q4 := hD.q4
            have qb := hD.rb
            have e1 := i64_and1 o.region
            have e2 := i64_and3 o.i
            have e3 : (0 : Int) ≤ o.region % 2 := by omega
            clear hD ho
            go_wp2_with fail
            refine (dFull _ o.b wr qb).mono ?_
            rintro ee wf ⟨g4, rfl, y4, bf⟩
            have T := T.below bf
            have b := b.trans (bf.mono b.size)
            have q1 := cell_later bf q1
            have q2 := cell_later bf q2
            clear q4 qb
            skip
            have x1 := fun y : RelyT.Lat wf.drew => cell_later y.2 (show wf.drew.cell? _ = _ from q1)
            have x2 := fun y : RelyT.Lat wf.drew => cell_later y.2 (show wf.drew.cell? _ = _ from q2)
            have hdr : Below wf.heap.size wf wf.drew := (Below.refl _ _).drew
            go_upto_region 18 with fail
            refine RelyT.wp_region_rely 14 (by kernel_rfl) (by kernel_rfl) ?_
            simp only [List.take_succ_cons, List.take_zero]
            generalize World.drew wf = wd1 at *
            repeat (first
              | (refine RelyT.wpR_step0 ?_ ?_ (fun K hK => ?_); rfl; rfl; go_simp; refine hK _ ?_; clear hK K))
            refine RelyT.wpR_nil fun x => ?_
            obtain ⟨we1, we1b⟩ := x
            simp only [RelyT.close, List.drop_succ_cons, List.drop_zero]
            have hdr := hdr.trans (we1b.mono hdr.size)
            clear x1 x2 we1b
            have y4 := y4.below hdr
            have b := b.trans (hdr.mono b.size)
            have q1 := cell_later hdr q1
            have q2 := cell_later hdr q2
            have T := T.below hdr
            clear hdr
            go_wp2_with fail
            refine (tWrite T b.size (by omega) (o.region % 2) (o.i % 4) _ (fullB o.b) (y4.lb _)).mono ?_
            rintro ee wg ⟨rfl, T', c'⟩
            have b := b.trans c'.1
            have y4 := y4.keep c'.2
            have hqq := c'.1
            have hD2 := D0.below b
            have q1 := hD2.q1
            have q2 := hD2.q2
            clear T c' hD2 hqq
            go_wp2_with fail
            have x1 := fun y : RelyT.Lat wg.drew => cell_later y.2 (show wg.drew.cell? _ = _ from q1)
            have x2 := fun y : RelyT.Lat wg.drew => cell_later y.2 (show wg.drew.cell? _ = _ from q2)
            have hdr : Below wg.heap.size wg wg.drew := (Below.refl _ _).drew
            go_upto_region 20 with fail
            refine RelyT.wp_region_rely 14 (by kernel_rfl) (by kernel_rfl) ?_
            simp only [List.take_succ_cons, List.take_zero]
            generalize World.drew wg = wd2 at *
            repeat (first
              | (refine RelyT.wpR_step0 ?_ ?_ (fun K hK => ?_); rfl; rfl; go_simp; refine hK _ ?_; clear hK K))
            refine RelyT.wpR_nil fun x => ?_
            obtain ⟨we2, we2b⟩ := x
            simp only [RelyT.close, List.drop_succ_cons, List.drop_zero]
            have hdr := hdr.trans (we2b.mono hdr.size)
            clear x1 x2 we2b
            have y4 := y4.below hdr
            have b := b.trans (hdr.mono b.size)
            have q1 := cell_later hdr q1
            have q2 := cell_later hdr q2
            have T' := T'.below hdr
            clear hdr
            go_wp2_with fail
            refine (tWrite T'.swap b.size (by omega) (o.region % 2) (o.i % 4) _ (fullB o.b) (y4.lb _)).mono ?_
            rintro ee wh ⟨rfl, T2, c2⟩
            have b := b.trans c2.1
            have T2 := T2.swap
            clear T' y4 c2 q1 q2
            go_wp2_with fail
            go_roundw
            case rel => exact ⟨k + 1, _, by omega, by go_num, (lens_writeZ _ _ _ _).trans L4, left_writeZ Lm _ _ _, SQ.writeZ _ _ _, b, .inr ⟨by omega, g2, rfl, T2⟩⟩
            case measure => simp only [intOf]; omega
          · have hkl : (k : Int) = (l.length : Int) := by omega
            obtain ⟨p1, p2⟩ := copies_end T.ok1 (by omega) L4 Lm SQ (fullB [1, 2]) keep
            have p1 := Lib.hid p1
            have p2 := Lib.hid p2
            go_wp2_with fail
            refine (dFull2 wr 1 2 1 2 rfl rfl).mono ?_
            rintro ee v1 ⟨h1, rfl, y1, f1⟩
            have T := T.below f1
            have b := b.trans (f1.mono b.size)
            clear f1
            go_wp2_with fail
            refine (tWrite T b.size (by omega) 0 0 _ (fullB [1, 2]) (y1.lb _)).mono ?_
            rintro ee v2 ⟨rfl, T2, c2⟩
            have b := b.trans c2.1
            clear c2
            clear T y1
            go_wp2_with fail
            refine (tBarrier T2 b.size (by omega) 0).mono ?_
            rintro ee v3 ⟨rfl, T3, c3⟩
            have b := b.trans c3.1
            clear c3
            clear T2
            go_wp2_with fail
            refine (tBarrier T3 b.size (by omega) 1).mono ?_
            rintro ee v4 ⟨rfl, T4, c4⟩
            have b := b.trans c4.1
            clear c4
            clear T3
            go_wp2_with fail
            refine (dFull2 v4 1 2 1 2 rfl rfl).mono ?_
            rintro ee v5 ⟨h5, rfl, y5, f5⟩
            have T5 := T4.below f5
            have b := b.trans (f5.mono b.size)
            clear f5 T4
            go_wp2_with fail
            refine (tWrite T5.swap b.size (by omega) 0 0 _ (fullB [1, 2]) (y5.lb _)).mono ?_
            rintro ee v6 ⟨rfl, T6, c6⟩
            have b := b.trans c6.1
            clear c6
            clear T5 y5
            go_wp2_with fail
            refine (tCrashFF T6 b.size (by omega) _ _ _ (by first | rfl | simp) (by first | rfl | simp) (by first | rfl | simp)).mono ?_
            rintro ee v7 ⟨rfl, T7, c7⟩
            have b := b.trans c7.1
            clear c7
            clear T6
            go_wp2_with fail
            refine (tCrash T7.swap b.size (by omega) keep _ ((LBL.of_rd HK.out).ch (Ch.of_below b (Nat.le_refl _)))).mono ?_
            rintro ee v8 ⟨rfl, T8, c8⟩
            have b := b.trans c8.1
            clear c8
            have T8 := T8.mono (Nat.le_refl _) (show k + 1 ≤ k + 1 + 1 + 1 by omega)
            clear T7
            generalize crashD (barrierZ (barrierZ (writeZ D 0 0 (fullB [1, 2])) 0) 1) keep = DD at *
            generalize crashD (writeZ D 0 0 (fullB [1, 2])) [FF6, FF6] = DC at *
            go_wp2_with fail
            go_loopw [12, 13, 14, 15, 16] (fun i _ _ _ _ wx => CoEnd w g g2 (k + 1 + 1 + 1) DD DC i wx) (fun i _ _ _ _ _ => 8 - (intOf i).toNat)
            case atStart => exact ⟨0, Nat.zero_le _, rfl, T8, b⟩
            case round =>
              clear T8 b
              obtain ⟨j, hj, rfl, T, b⟩ := hrel
              by_cases hj8 : j < 8
              · have hjI : (j : Int) < 8 := by omega
                obtain ⟨q, hq⟩ : ∃ q, q = j / 4 := ⟨_, rfl⟩
                obtain ⟨s, hs⟩ : ∃ s, s = j % 4 := ⟨_, rfl⟩
                have e8 : (j : Int) / 4 = (q : Int) := by omega
                have e9 : (j : Int) % 4 = (s : Int) := by omega
                have e8' : (j : Int).tdiv 4 = (q : Int) := by rw [Int.tdiv_eq_ediv_of_nonneg (by omega)]; exact e8
                have e9' : (j : Int).tmod 4 = (s : Int) := by rw [Int.tmod_eq_emod_of_nonneg (by omega)]; exact e9
                have g0 : (0 : Int) ≤ (q : Int) := by omega
                have q2 : q < 2 := by omega
                have s4 : s < 4 := by omega
                clear hq hs
                have hin : inB DD (q : Int) (s : Int) = true := by
                  rw [inB_lens p2.out]
                  match q, q2 with
                  | 0, _ => simpa using s4
                  | 1, _ => simpa using s4
                have hin2 : inB DC (q : Int) (s : Int) = true := by
                  rw [inB_lens ((lens_seens p1.out).symm.trans p2.out)]
                  match q, q2 with
                  | 0, _ => simpa using s4
                  | 1, _ => simpa using s4
                have hrd := readZ_seens p1.out (q : Int) (s : Int)
                have h64 := readZ_len T.ok1 _ _ hin
                go_wp2_with fail
                refine (dRead T.fst (q : Int) (s : Int)).mono ?_
                rintro ee r1 ⟨u1, rfl, o1, x1⟩
                rw [hin, if_pos rfl] at o1
                rw [hin]
                have T := T.below x1
                have b := b.trans (x1.mono b.size)
                clear x1
                go_wp2_with fail
                refine (dRead T.snd (q : Int) (s : Int)).mono ?_
                rintro ee r2 ⟨u2, rfl, o2, x2⟩
                rw [hin2, if_pos rfl, ← hrd] at o2
                rw [hin2]
                have T := T.below x2
                have b := b.trans (x2.mono b.size)
                have o1 := o1.below x2
                clear x2 hrd hin hin2
                generalize readZ DD (q : Int) (s : Int) = X at *
                have hs1 := run_string_of (P := Try.prog) o1.rd 34 5 9 Try.underlying34 Try.underlying5 Try.underlying9
                have hs2 := run_string_of (P := Try.prog) o2.rd 34 5 9 Try.underlying34 Try.underlying5 Try.underlying9
                obtain ⟨a1, k1, eq1, _⟩ := o1.rd
                rw [bs_length, h64] at eq1
                subst eq1
                clear o1 o2 h64
                go_wp2_with fail
                go_roundw
                case rel => exact ⟨j + 1, by omega, by go_num, T, b⟩
                case measure => simp only [intOf]; omega
              · have hjI : ¬ (j : Int) < 8 := by omega
                go_wp2_with fail
                go_ret
                exact ⟨rfl, b⟩
    · have hkI : (5 : Int) < (keep.length : Int) := by omega
      go_wp2_with fail
      go_ret
      exact ⟨rfl, b1⟩
  · have hlI : (40 : Int) < (l.length : Int) := by omega
    go_wp2_with fail
    go_ret
    exact ⟨rfl, b1⟩
theorem devCopies_row (n1 : Int) (l : List Deed) (kv : Value) (keep : List (List UInt8)) (v : Value) (w : World) (hl : RdDs w v l) (hk : RdTx w kv keep) (wf1 : (Lit.int .u8 n1).wf = true) :
    Calls Try.prog 6 #[v, .int .u8 n1, kv] w fun e w' => e = .returned (.bool true) ∧ Below w.heap.size w w' := by
  obtain ⟨b, rfl⟩ := wf_u8 wf1
  exact devCopies_core b.toNat _ b.toNat_lt l kv keep v w hl hk rfl
end Go.Proofs.Ytbagicjimfhmeaa.Cl
