/- The law DevTraces. -/
import Derived.Test.YtbagicjimfhmeaaDevO
import Derived.Test.YtbagicjimfhmeaaDevL
import Derived.Test.YtbagicjimfhmeaaRelyT
set_option linter.unusedVariables false
set_option linter.unusedSimpArgs false
namespace Go.Proofs.Ytbagicjimfhmeaa.Cl
open Go Go.Proofs Go.RowKit Fl

theorem tail2 {w : World} {ad : Addr} {c : Nat} {t : List UInt8} (h : Rd w (.slice (some ad) 66 c) (bs t)) (ht : t.length = 66) : Rd w (.slice (some { ad with off := ad.off + 2, spot := none }) 64 (c - 2)) (bs (t.drop 2)) := by
  have h66 : 66 ≤ c := by
    obtain ⟨a', c', e, h1, _⟩ := h
    injection e with _ _ e
    rw [bs_length, ht] at h1
    omega
  have := h.sub 2 66 (by omega) (by rw [bs_length, ht]; exact Nat.le_refl _)
  rw [show sliced (some ad) 2 66 c 1 = .slice (some { ad with off := ad.off + 2, spot := none }) 64 (c - 2) from by unfold sliced; rw [if_neg (by omega)]; rfl] at this
  rw [List.take_of_length_le (by simp [bs, ht])] at this
  simpa [bs, List.map_drop] using this
theorem trace_of (R0 R1 : Rg) (r : Nat) (hr : r < 2) : traceZ ([R0, R1], -1) (r : Int) = trOf R0 R1 r := by
  match r, hr with
  | 0, _ => rfl
  | 1, _ => rfl
def FullV (F : List UInt8) (v : Value) (W : World) : Prop := ∃ g, v = .slice (some ⟨g, 0, none⟩) 64 64 ∧ Byt W v F
def Tr1 (w : World) (g g2 : Nat) (l : List Deed) (i : Value) (wr : World) : Prop := ∃ (k : Nat) (D : Dv), k ≤ l.length ∧ i = .int .i64 (k : Int) ∧ lens D = [4, 4] ∧ D.2 = -1 ∧ TInv D ∧ Two w.heap.size wr g k D g2 0 (newD [4, 4]) ∧ Below w.heap.size w wr
def Tr2 (w : World) (g g2 n : Nat) (R0 R1 : Rg) (i : Value) (wr : World) : Prop := ∃ r : Nat, r ≤ 2 ∧ i = .int .i64 (r : Int) ∧ (∃ m E, m ≤ 40 * r ∧ (if r = 2 then E = ([R0, R1], -1) else E = ES R0 R1 r 0) ∧ Two w.heap.size wr g n ([R0, R1], -1) g2 m E) ∧ Below w.heap.size w wr
def Tr3 (w w1 : World) (Z : Nat → Prop) (g2 r : Nat) (R0 R1 : Rg) (T : List (List UInt8)) (i : Value) (wr : World) : Prop := ∃ j : Nat, j ≤ T.length ∧ i = .int .i64 (j : Int) ∧ DZ w.heap.size Z wr g2 (40 * r + j) (ES R0 R1 r j) ∧ CZ w.heap.size Z w1 wr
set_option maxRecDepth 100000 in
set_option maxHeartbeats 4000000 in
theorem devTraces_law (l : List Deed) (v : Value) (w : World) (hl : RdDs w v l) :
    Calls Try.prog 5 #[v] w fun e w' => e = .returned (.bool true) ∧ Below w.heap.size w w' := by
  obtain ⟨a0, cap, rfl, hc1, hc2, hds⟩ := hl
  go_enter Try.func5, Try.ntmps5
  go_wp2_with fail
  refine (devBegun_any w).mono ?_
  rintro e w1 ⟨rfl, b1⟩
  by_cases hlen : l.length ≤ 40
  · have hlI : ¬ (40 : Int) < (l.length : Int) := by omega
    go_wp2_with fail
    refine (dNew1 w1 w.heap.size #[.int .i64 4, .int .i64 4] [4, 4] 2 rfl rfl (by unfold okS; decide) b1.size).mono ?_
    rintro e w2 ⟨g, rfl, d2, bx⟩
    have d2 : DAt w.heap.size w2 g 0 (newD [4, 4]) := d2
    have b2 := b1.trans (bx.mono b1.size)
    clear bx b1
    go_wp2_with fail
    refine (dNew1 w2 w2.heap.size #[.int .i64 4, .int .i64 4] [4, 4] 2 rfl rfl (by unfold okS; decide) (Nat.le_refl _)).mono ?_
    rintro e w3 ⟨g2, rfl, d3, bx⟩
    have d3 : DAt w2.heap.size w3 g2 0 (newD [4, 4]) := d3
    have T3 := Two.mk' d2 bx d3 b2.size
    have b3 := b2.trans (bx.mono b2.size)
    clear bx d2 d3 b2
    go_wp2_with fail
    go_loopw [7] (fun i wr => Tr1 w g g2 l i wr) (fun i _ => l.length - (intOf i).toNat)
    case atStart => exact ⟨0, newD [4, 4], Nat.zero_le _, rfl, by simp [lens, newD, newR], rfl, TInv.new, T3, b3⟩
    case round =>
      clear T3 b3
      obtain ⟨k, D, hk, rfl, L4, Lm, TI, T, b⟩ := hrel
      by_cases hkl : k < l.length
      · have hkI : (k : Int) < (l.length : Int) := by omega
        obtain ⟨ad, rfl, D0⟩ := hds k hkl
        have hD := D0.below b
        obtain ⟨o, ho⟩ : ∃ o, o = l[k] := ⟨_, rfl⟩
        rw [← ho] at hD
        have q0 := hD.q0
        have q1 := hD.q1
        have q2 := hD.q2
        have q4 := hD.q4
        have qb := hD.rb
        have e1 := i64_and1 o.region
        have e2 := i64_and3 o.i
        have e3 : o.i % 4 < 4 := by omega
        clear hD D0 ho
        by_cases hkind : o.kind.tmod 5 = 4
        · go_wp2_with fail
          refine (tBarrier T b.size (by omega) (o.region % 2)).mono ?_
          rintro ee w5 ⟨rfl, T5, c5⟩
          have b5 := b.trans c5.1
          clear T c5
          go_wp2_with fail
          go_roundw
          case rel => exact ⟨k + 1, _, by omega, by go_num, (lens_barrierZ _ _).1.trans L4, left_barrierZ Lm _, TI.barrierZ _, T5, b5⟩
          case measure => simp only [intOf]; omega
        · have x1 := fun y : RelyT.Lat wr.drew => cell_later y.2 (show wr.drew.cell? _ = _ from q1)
          have x2 := fun y : RelyT.Lat wr.drew => cell_later y.2 (show wr.drew.cell? _ = _ from q2)
          have x4 := fun y : RelyT.Lat wr.drew => cell_later y.2 (show wr.drew.cell? _ = _ from q4)
          have xb := fun y : RelyT.Lat wr.drew => (Rd.drew qb).below y.2
          have hdr : Below wr.heap.size wr wr.drew := (Below.refl _ _).drew
          go_upto_region 14 with fail
          refine RelyT.wp_region_rely 19 (by kernel_rfl) (by kernel_rfl) ?_
          simp only [List.take_succ_cons, List.take_zero]
          generalize World.drew wr = wd at *
          repeat (first
            | (refine RelyT.wpR_step0 ?_ ?_ (fun K hK => ?_); rfl; rfl; go_simp; refine hK _ ?_; clear hK K))
          refine RelyT.wpR_fresh (FullV (fullB o.b)) 84 rfl rfl rfl rfl (of_decide_eq_true rfl) (fun v W W' h hb => by obtain ⟨g, e, y⟩ := h; exact ⟨g, e, y.below hb⟩) (fun y => ?_) ?_
          · go_simp
            refine (dFull _ o.b _ (xb y)).mono ?_
            rintro ee wq ⟨g4, rfl, y4, bq⟩
            exact ⟨_, rfl, bq, g4, rfl, y4⟩
          refine RelyT.wpR_nil fun x => ?_
          obtain ⟨we, web⟩ := x
          simp only [RelyT.close, List.drop_succ_cons, List.drop_zero]
          rintro u84 ⟨g4, rfl, y4⟩
          have hdr := hdr.trans (web.mono hdr.size)
          clear x1 x2 x4 xb web
          have T := T.below hdr
          have b := b.trans (hdr.mono b.size)
          clear hdr q0 q1 q2 q4 qb
          go_wp2_with fail
          refine (tWrite T b.size (by omega) (o.region % 2) (o.i % 4) _ (fullB o.b) (y4.lb _)).mono ?_
          rintro ee w5 ⟨rfl, T5, c5⟩
          have b5 := b.trans c5.1
          clear T c5 y4
          go_wp2_with fail
          go_roundw
          case rel => exact ⟨k + 1, _, by omega, by go_num, (lens_writeZ _ _ _ _).trans L4, left_writeZ Lm _ _ _, TI.writeZ _ _ _ e3, T5, b5⟩
          case measure => simp only [intOf]; omega
      · have hkI : ¬ (k : Int) < (l.length : Int) := by omega
        obtain ⟨R0, R1, hRR, l0, l1⟩ := two_of_lens L4
        obtain rfl : D = ([R0, R1], -1) := Prod.ext hRR Lm
        have I0 : RInv R0 := TI R0 (by simp)
        have I1 : RInv R1 := TI R1 (by simp)
        have t0 : R0.trace.length ≤ 40 := by have := (T.ok1.rg R0 (by simp)).tn; omega
        have t1 : R1.trace.length ≤ 40 := by have := (T.ok1.rg R1 (by simp)).tn; omega
        clear hRR L4 Lm TI
        go_wp2_with fail
        go_loopw [8, 9, 10] (fun i _ _ wx => Tr2 w g g2 k R0 R1 i wx) (fun i _ _ _ => 2 - (intOf i).toNat)
        case atStart => exact ⟨0, by omega, rfl, ⟨0, newD [4, 4], by omega, by rw [if_neg (by decide)]; rfl, T⟩, b⟩
        case round =>
          clear T b
          rename World => wo
          obtain ⟨r, hr, rfl, ⟨m, E, hm, hE, T⟩, b⟩ := hrel
          by_cases hr2 : r < 2
          · have hrI : (r : Int) < 2 := by omega
            rw [if_neg (by omega)] at hE
            subst hE
            have htr := trace_of R0 R1 r hr2
            have hT40 : (trOf R0 R1 r).length ≤ 40 := by
              unfold trOf
              split <;> assumption
            have hTok : ∀ t ∈ trOf R0 R1 r, tOk t := by
              unfold trOf
              split
              · exact I0.2
              · exact I1.2
            go_wp2_with fail
            refine (dTrace T.fst (by omega) (r : Int)).mono ?_
            rintro ee w5 ⟨u, rfl, t5, bx⟩
            rw [htr] at t5
            obtain ⟨Z, hz, hZ, hZu, hback⟩ := T.open_ bx u (fun k hk => ⟨t5.ge k hk, t5.lt k hk⟩)
            have hz : DZ w.heap.size Z w5 g2 (40 * r + 0) (ES R0 R1 r 0) := hz.mono hm
            have b5 := b.trans (bx.mono b.size)
            clear bx T b htr hm
            have HN0 := fun hr0 : r = 0 => ES_next R0 R1 I0
            have HN1 := ES_end R0 R1 I1
            obtain ⟨au, cu, eu, hcu, hcu2⟩ := t5.len
            have hgu : 0 < (trOf R0 R1 r).length → ∃ gu, au = some ⟨gu, 0, none⟩ := fun h0 => by
              obtain ⟨gu, cu', e', _⟩ := t5.shape h0
              rw [eu] at e'
              injection e' with e'
              exact ⟨gu, e'⟩
            subst eu
            have hstep : ∀ j (hj : j < (trOf R0 R1 r).length), (trOf R0 R1 r)[j].length = 2 → barrierZ (ES R0 R1 r j) r = ES R0 R1 r (j + 1) := fun j hj ht => ES_barrier R0 R1 r j hr2 hj ht
            have hstep2 := fun j (hj : j < (trOf R0 R1 r).length) ht => ES_write R0 R1 r j hr2 hj ht (hTok _ (List.getElem_mem hj))
            have htrl : (r = 0 ∧ trOf R0 R1 r = R0.trace) ∨ (r = 1 ∧ trOf R0 R1 r = R1.trace) := by
              rcases (show r = 0 ∨ r = 1 by omega) with rfl | rfl
              · exact .inl ⟨rfl, rfl⟩
              · exact .inr ⟨rfl, rfl⟩
            generalize trOf R0 R1 r = TT at *
            go_wp2_with fail
            go_loopw [10] (fun i wx => Tr3 w w5 Z g2 r R0 R1 TT i wx) (fun i _ => TT.length - (intOf i).toNat)
            case atStart => exact ⟨0, Nat.zero_le _, rfl, hz, CZ.refl _ _ _⟩
            case round =>
              clear hz
              rename World => wx
              obtain ⟨j, hj, rfl, E, cz⟩ := hrel
              have hB : w.heap.size ≤ wx.heap.size := Nat.le_trans b5.size cz.1.size
              have hZx : ∀ k, Z k → k < wx.heap.size := fun k hk => Nat.lt_of_lt_of_le (hZ k hk) cz.1.size
              by_cases hjl : j < TT.length
              · have hjI : (j : Int) < (TT.length : Int) := by omega
                obtain ⟨gu, rfl⟩ := hgu (by omega)
                have tx := t5.frm cz.2 cz.1.2 (fun k hk hn => hn (hZu k hk))
                obtain ⟨tv, ht1, ht2⟩ := tx.at_ j hjl
                have h1 := hstep j hjl
                have h2 := hstep2 j hjl
                clear tx hstep hstep2 hTok htrl HN0
                generalize TT[j] = t at *
                have htl : t.length = 2 ∨ t.length = 66 := by
                  by_cases h : t.length = 2
                  · exact .inl h
                  · exact .inr (h2 h).1
                obtain ⟨ad, c, etv, hct, _⟩ := Rd.some_ ht2.rd (by rw [bs_length]; omega)
                rw [bs_length] at etv
                rcases htl with htl | htl
                · rw [htl] at etv
                  subst etv
                  have h1 := h1 htl
                  clear h2
                  go_wp2_with fail
                  refine (zBarrier E hZx hB (by omega) (r : Int)).mono ?_
                  rintro ee w6 ⟨rfl, E6, c6⟩
                  rw [h1] at E6
                  have c6 := cz.trans c6
                  go_wp2_with fail
                  go_roundw
                  case rel => exact ⟨j + 1, by omega, by go_num, E6, c6⟩
                  case measure => simp only [intOf]; omega
                · obtain ⟨_, f2, f3, f4, f5⟩ := h2 (by omega)
                  rw [htl] at etv
                  subst etv
                  clear h1
                  obtain ⟨ta, tb, tr, rfl⟩ : ∃ a b r, t = a :: b :: r := by
                    match t, htl with
                    | a :: b :: r, _ => exact ⟨a, b, r, rfl⟩
                  have fi : ((tIdx (ta :: tb :: tr) : Nat) : Int) = (ta.toNat : Int) * 256 + (tb.toNat : Int) := by simp [tIdx]
                  rw [fi] at f4 f5
                  have pa := ta.toNat_lt
                  have pb := tb.toNat_lt
                  have c0 : wx.drew.cell? ad = some (.int .u8 (ta.toNat : Int)) := Rd.cell0 ht2.rd (by simp [bs])
                  have c1 : wx.drew.cell? { ad with off := ad.off + 1, spot := none } = some (.int .u8 (tb.toNat : Int)) := Rd.cellS ht2.rd 0 (by simp [bs])
                  have y0 := fun y : RelyT.Lat wx.drew => cell_later y.2 c0
                  have y1 := fun y : RelyT.Lat wx.drew => cell_later y.2 c1
                  have y2 := fun y : RelyT.Lat wx.drew => cell_later y.2 (show wx.drew.cell? _ = _ from ht1)
                  have e3 : IntKind.i64.wrap (ta.toNat : Int) = (ta.toNat : Int) := IntWalk.i64_in _ (by omega)
                  have e4 : IntKind.i64.wrap (tb.toNat : Int) = (tb.toNat : Int) := IntWalk.i64_in _ (by omega)
                  have e5 : IntKind.i64.wrap ((ta.toNat : Int) * 256) = (ta.toNat : Int) * 256 := IntWalk.i64_in _ (by omega)
                  have e6 : IntKind.i64.wrap ((ta.toNat : Int) * 256 + (tb.toNat : Int)) = (ta.toNat : Int) * 256 + (tb.toNat : Int) := IntWalk.i64_in _ (by omega)
                  have hdr : Below wx.heap.size wx wx.drew := (Below.refl _ _).drew
                  have hcc : 66 ≤ c := by
                    rw [bs_length, htl] at hct
                    exact hct
                  go_upto_region 24 with fail
                  refine RelyT.wp_region_rely 30 (by kernel_rfl) (by kernel_rfl) ?_
                  simp only [List.take_succ_cons, List.take_zero]
                  generalize World.drew wx = wd at *
                  repeat (first
                    | (refine RelyT.wpR_step0 ?_ ?_ (fun K hK => ?_); rfl; rfl; go_simp; refine hK _ ?_; clear hK K))
                  refine RelyT.wpR_nil fun x => ?_
                  obtain ⟨we, web⟩ := x
                  simp only [RelyT.close, List.drop_succ_cons, List.drop_zero]
                  have hdr := hdr.trans (web.mono hdr.size)
                  have E := E.below hdr
                  have cz := cz.trans (CZ.of_below Z hdr hB)
                  have hB := Nat.le_trans hB hdr.size
                  have hZx : ∀ k, Z k → k < we.heap.size := fun k hk => Nat.lt_of_lt_of_le (hZx k hk) hdr.size
                  have yl : LB w.heap.size we (.slice (some { ad with off := ad.off + 2, spot := none }) 64 (c - 2)) tr := fun w' k => tail2 (t := ta :: tb :: tr) (((ht2.below hdr).keep k.2).rd) htl
                  clear y0 y1 y2 c0 c1 web hdr ht1 ht2
                  go_wp2_with fail
                  refine (zWrite E hZx hB (by omega) (r : Int) ((ta.toNat : Int) * 256 + (tb.toNat : Int)) _ tr yl).mono ?_
                  rintro ee w6 ⟨rfl, E6, c6⟩
                  have f3 : tr.length = 64 := f3
                  have f5 : writeZ (ES R0 R1 r j) (r : Int) ((ta.toNat : Int) * 256 + (tb.toNat : Int)) tr = ES R0 R1 r (j + 1) := f5
                  rw [f4, f3]
                  rw [f5] at E6
                  have c6 := cz.trans c6
                  simp only [decide_true, Bool.and_self]
                  go_wp2_with fail
                  go_roundw
                  case rel => exact ⟨j + 1, by omega, by go_num, E6, c6⟩
                  case measure => simp only [intOf]; omega
              · have hjI : ¬ (j : Int) < (TT.length : Int) := by omega
                obtain rfl : j = TT.length := by omega
                have T := hback wx _ _ E cz
                have b := b5.trans cz.1.1
                have hE : if r + 1 = 2 then ES R0 R1 r TT.length = ([R0, R1], -1) else ES R0 R1 r TT.length = ES R0 R1 (r + 1) 0 := by
                  rcases htrl with ⟨rfl, rfl⟩ | ⟨rfl, rfl⟩
                  · rw [if_neg (by decide)]
                    exact HN0 rfl
                  · rw [if_pos rfl]
                    exact HN1
                go_wp2_with fail
                go_roundw
                case rel => exact ⟨r + 1, by omega, by go_num, ⟨40 * r + TT.length, _, by omega, hE, T⟩, b⟩
                case measure => simp only [intOf]; omega
          · have hrI : ¬ (r : Int) < 2 := by omega
            obtain rfl : r = 2 := by omega
            rw [if_pos rfl] at hE
            subst hE
            have su0 := (T.ok1.rg R0 (by simp)).su
            have su1 := (T.ok1.rg R1 (by simp)).su
            have p2 := Lib.hid (show lens (crashD ([R0, R1], -1) []) = [4, 4] by
              show [(crashS [] R0.sure R0.later).length, (crashS [] R1.sure R1.later).length] = [4, 4]
              rw [crashS_length, crashS_length, su0, su1, l0, l1])
            clear su0 su1
            go_wp2_with fail
            refine (tCrash T b.size (by omega) [] _ (LBL.nil _ _)).mono ?_
            rintro ee w5 ⟨rfl, T5, c5⟩
            have b := b.trans c5.1
            clear c5 T
            go_wp2_with fail
            refine (tCrash T5.swap b.size (by omega) [] _ (LBL.nil _ _)).mono ?_
            rintro ee w6 ⟨rfl, T6, c6⟩
            have b := b.trans c6.1
            have T6 := T6.swap
            have T6 := T6.mono (show k ≤ k + m by omega) (show m ≤ k + m by omega)
            clear c6 T5
            generalize crashD ([R0, R1], -1) [] = DD at *
            go_wp2_with fail
            go_loopw [11, 12, 13, 14, 15] (fun i _ _ _ _ wx => CoEnd w g g2 (k + m) DD DD i wx) (fun i _ _ _ _ _ => 8 - (intOf i).toNat)
            case atStart => exact ⟨0, Nat.zero_le _, rfl, T6, b⟩
            case round =>
              clear T6 b
              obtain ⟨j, hj, rfl, T, b⟩ := hrel
              by_cases hj8 : j < 8
              · have hjI : (j : Int) < 8 := by omega
                obtain ⟨q, hq⟩ : ∃ q, q = j / 4 := ⟨_, rfl⟩
                obtain ⟨s, hs⟩ : ∃ s, s = j % 4 := ⟨_, rfl⟩
                have e8 : (j : Int) / 4 = (q : Int) := by omega
                have e9 : (j : Int) % 4 = (s : Int) := by omega
                have e8' : (j : Int).tdiv 4 = (q : Int) := by rw [Int.tdiv_eq_ediv_of_nonneg (by omega)]; exact e8
                have e9' : (j : Int).tmod 4 = (s : Int) := by rw [Int.tmod_eq_emod_of_nonneg (by omega)]; exact e9
                have g0 : (0 : Int) ≤ (q : Int) := by omega
                have q2 : q < 2 := by omega
                have s4 : s < 4 := by omega
                clear hq hs
                have hin : inB DD (q : Int) (s : Int) = true := by
                  rw [inB_lens p2.out]
                  match q, q2 with
                  | 0, _ => simpa using s4
                  | 1, _ => simpa using s4
                go_wp2_with fail
                refine (dRead T.fst (q : Int) (s : Int)).mono ?_
                rintro ee r1 ⟨u1, rfl, o1, x1⟩
                rw [hin, if_pos rfl] at o1
                rw [hin]
                have T := T.below x1
                have b := b.trans (x1.mono b.size)
                clear x1
                go_wp2_with fail
                refine (dRead T.snd (q : Int) (s : Int)).mono ?_
                rintro ee r2 ⟨u2, rfl, o2, x2⟩
                rw [hin, if_pos rfl] at o2
                rw [hin]
                have T := T.below x2
                have b := b.trans (x2.mono b.size)
                have o1 := o1.below x2
                clear x2 hin
                generalize readZ DD (q : Int) (s : Int) = X at *
                have hs1 := run_string_of (P := Try.prog) o1.rd 34 5 9 Try.underlying34 Try.underlying5 Try.underlying9
                have hs2 := run_string_of (P := Try.prog) o2.rd 34 5 9 Try.underlying34 Try.underlying5 Try.underlying9
                clear o1 o2
                go_wp2_with fail
                go_roundw
                case rel => exact ⟨j + 1, by omega, by go_num, T, b⟩
                case measure => simp only [intOf]; omega
              · have hjI : ¬ (j : Int) < 8 := by omega
                go_wp2_with fail
                go_ret
                exact ⟨rfl, b⟩
  · have hlI : (40 : Int) < (l.length : Int) := by omega
    go_wp2_with fail
    go_ret
    exact ⟨rfl, b1⟩
end Go.Proofs.Ytbagicjimfhmeaa.Cl
