/- The law DevStops. -/
import Derived.Test.YtbagicjimfhmeaaDevH
set_option linter.unusedVariables false
set_option linter.unusedSimpArgs false
namespace Go.Proofs.Ytbagicjimfhmeaa.Cl
open Go Go.Proofs Go.RowKit Fl

/-! ### plain -/
structure StInv (b : List UInt8) (stop i : Nat) (D : Dv) : Prop where
  one : ∃ R, D.1 = [R] ∧ R.seen.length = 60 ∧ (∀ j (h : j < R.seen.length), R.seen[j] = if j < min i stop then b else Z64) ∧ min i stop ≤ R.trace.length
  left : D.2 = (stop - min i stop : Nat)
theorem newR_at (n j : Nat) (h : j < (newR n).seen.length) : (newR n).seen[j] = Z64 := List.eq_of_mem_replicate (List.getElem_mem h)
theorem StInv.new (b : List UInt8) (stop : Nat) : StInv b stop 0 ((newD [60]).1, max (stop : Int) (-1)) where
  one := ⟨newR 60, rfl, by simp [newR], fun j h => by rw [newR_at 60 j h, if_neg (by omega)], by simp⟩
  left := by simp only [Nat.zero_min, Nat.sub_zero]; omega
theorem inB_one {D : Dv} {R : Rg} (h : D.1 = [R]) (i : Nat) : inB D 0 (i : Int) = decide (i < R.seen.length) := by
  unfold inB
  rw [h]
  simp
theorem StInv.next {b : List UInt8} {stop i : Nat} {D : Dv} (h : StInv b stop i D) (hb : b.length = 64) (hi : i < 60) : StInv b stop (i + 1) (barrierZ (writeZ D 0 i b) 0) := by
  obtain ⟨⟨R, hR, h1, h2, h3⟩, hl⟩ := h
  have hin : inB D 0 (i : Int) = true := by rw [inB_one hR, h1]; simpa using hi
  have hw : writeZ D 0 i b = writeD D 0 i b := by
    unfold writeZ
    rw [hin, hb]
    rfl
  rw [hw]
  by_cases hs : i < stop
  · have h0 : ¬ D.2 = 0 := by rw [hl]; omega
    have hD : writeD D 0 i b = ([writeR R i b], D.2 - 1) := by
      unfold writeD
      rw [hR]
      simp only [List.getElem?_cons_zero, if_neg h0, List.set_cons_zero]
      rw [if_pos (by rw [hl]; omega)]
    have hw1 : (writeR R i b).seen.length = 60 := by simp [writeR, h1]
    have hs2 : ∀ j (h : j < (writeR R i b).seen.length), (writeR R i b).seen[j] = if j < min (i + 1) stop then b else Z64 := fun j hj => by
      have hj' : j < R.seen.length := by rw [h1]; rw [hw1] at hj; exact hj
      simp only [writeR]
      rw [List.getElem_set]
      by_cases e : i = j
      · rw [if_pos e, if_pos (by omega)]
      · rw [if_neg e, h2 j hj']
        by_cases e2 : j < min i stop
        · rw [if_pos e2, if_pos (by omega)]
        · rw [if_neg e2, if_neg (by omega)]
    have ht : (writeR R i b).trace.length = R.trace.length + 1 := by simp [writeR]
    rw [hD]
    have hin2 : inB ([writeR R i b], D.2 - 1) 0 0 = true := by
      have := inB_one (D := ([writeR R i b], D.2 - 1)) (R := writeR R i b) rfl 0
      rw [hw1] at this
      exact this
    unfold barrierZ
    rw [if_pos hin2]
    unfold barrierD
    simp only [Int.toNat_zero, List.getElem?_cons_zero, List.set_cons_zero]
    split
    · exact ⟨⟨_, rfl, hw1, hs2, by rw [ht]; omega⟩, by simp only; rw [hl]; omega⟩
    · refine ⟨⟨_, rfl, hw1, hs2, ?_⟩, by simp only; rw [hl]; omega⟩
      simp only [barrierR, List.length_append]
      rw [ht]
      omega
  · have h0 : D.2 = 0 := by rw [hl]; omega
    have hD : writeD D 0 i b = D := by
      unfold writeD
      rw [hR]
      simp only [List.getElem?_cons_zero, if_pos h0]
    rw [hD]
    have hB : barrierZ D 0 = D := by
      unfold barrierZ barrierD
      rw [hR]
      simp [h0]
    rw [hB]
    have e : min (i + 1) stop = min i stop := by omega
    exact ⟨⟨R, hR, h1, by rw [e]; exact h2, by rw [e]; exact h3⟩, by rw [e]; exact hl⟩
theorem StInv.at_ {b : List UInt8} {stop i : Nat} {D : Dv} (h : StInv b stop i D) (j : Nat) (hj : j < 60) : inB D 0 (j : Int) = true ∧ readZ D 0 j = if j < min i stop then b else Z64 := by
  obtain ⟨⟨R, hR, h1, h2, h3⟩, hl⟩ := h
  refine ⟨by rw [inB_one hR, h1]; simpa using hj, ?_⟩
  unfold readZ
  rw [hR]
  simp only [Int.toNat_zero, List.getElem?_cons_zero, Int.toNat_natCast]
  rw [List.getD_eq_getElem?_getD, List.getElem?_eq_getElem (by omega)]
  exact h2 j (by omega)
theorem StInv.zero {b : List UInt8} {stop i : Nat} {D : Dv} (h : StInv b stop i D) (hb : b.length = 64) (hi : i < 60) : inB (writeZ D 0 i b) 0 0 = true := by
  obtain ⟨⟨R, hR, h1, h2, h3⟩, hl⟩ := h
  have hin : inB D 0 (i : Int) = true := by rw [inB_one hR, h1]; simpa using hi
  unfold writeZ
  rw [hin, hb]
  unfold writeD
  rw [hR]
  simp only [decide_true, Bool.and_self, if_true, Int.toNat_zero, Int.toNat_natCast, List.getElem?_cons_zero, List.set_cons_zero]
  split
  · have := inB_one hR 0
    rw [h1] at this
    exact this
  · have := inB_one (D := ([writeR R i b], if 0 < D.2 then D.2 - 1 else D.2)) (R := writeR R i b) rfl 0
    simp only [writeR, List.length_set, h1] at this
    exact this
theorem StInv.trace {b c : List UInt8} {stop i : Nat} {D : Dv} (h : StInv b stop i D) (hc : c.length = 64) (hu : ∀ R ∈ D.1, R.sure.length = R.seen.length) :
    min i stop ≤ (traceZ D 0).length ∧ (crashD D []).2 = -1 ∧ (inB (crashD D []) 0 59 = true ∧ (traceZ (writeZ (crashD D []) 0 59 c) 0).length = (traceZ D 0).length + 1) := by
  obtain ⟨⟨R, hR, h1, h2, h3⟩, hl⟩ := h
  have hu := hu R (by rw [hR]; exact List.mem_cons_self ..)
  have hT : traceZ D 0 = R.trace := by unfold traceZ; rw [hR]; rfl
  have hC : crashD D [] = ([crashR [] R], -1) := by unfold crashD crashTo; rw [hR]; rfl
  rw [hT, hC]
  have hin : inB ([crashR [] R], -1) 0 59 = true := by
    have := inB_one (D := ([crashR [] R], -1)) (R := crashR [] R) rfl 59
    simp only [crashR, crashS_length, hu, h1] at this
    exact this
  refine ⟨h3, rfl, hin, ?_⟩
  unfold writeZ
  rw [hin, hc]
  unfold writeD traceZ
  simp [writeR, crashR]
def F1 : List UInt8 := fullB [1]
theorem F1_eq : F1 = 1 :: List.replicate 63 0 := by decide +kernel
def St1 (w : World) (g stop tries : Nat) (i : Value) (wr : World) : Prop := ∃ (j : Nat) (D : Dv), j ≤ tries ∧ i = .int .i64 (j : Int) ∧ StInv F1 stop j D ∧ DAt w.heap.size wr g (2 * j) D ∧ Below w.heap.size w wr
def St2 (w : World) (g n m : Nat) (D : Dv) (d i : Value) (wr : World) : Prop := ∃ j : Nat, j ≤ 60 ∧ i = .int .i64 (j : Int) ∧ d = .int .i64 ((min j m : Nat) : Int) ∧ DAt w.heap.size wr g n D ∧ Below w.heap.size w wr
set_option maxRecDepth 100000 in
set_option maxHeartbeats 4000000 in
theorem devStops_law (x y : Nat) (hx : x < 256) (hy : y < 256) (w : World) : Calls Try.prog 8 #[.int .u8 (x : Int), .int .u8 (y : Int)] w fun e w' => e = .returned (.bool true) ∧ Below w.heap.size w w' := by
  obtain ⟨stop, hstop⟩ : ∃ s, s = x % 50 := ⟨_, rfl⟩
  obtain ⟨tries, htries⟩ : ∃ s, s = y % 50 := ⟨_, rfl⟩
  have e1 : (x : Int) % 50 = (stop : Int) := by omega
  have e2 : (y : Int) % 50 = (tries : Int) := by omega
  have e3 : Int.tmod (x : Int) 50 = (stop : Int) := by rw [Int.tmod_eq_emod_of_nonneg (by omega)]; omega
  have e4 : Int.tmod (y : Int) 50 = (tries : Int) := by rw [Int.tmod_eq_emod_of_nonneg (by omega)]; omega
  have s50 : stop < 50 := by omega
  have t50 : tries < 50 := by omega
  clear hstop htries
  go_enter Try.func8, Try.ntmps8
  go_wp2_with fail
  refine (devBegun_any w).mono ?_
  rintro e w1 ⟨rfl, b1⟩
  go_wp2_with fail
  refine (dNew1 w1 w.heap.size #[.int .i64 60] [60] 1 rfl rfl (by unfold okS; decide) b1.size).mono ?_
  rintro e w2 ⟨g, rfl, d2, bx⟩
  have d2 : DAt w.heap.size w2 g 0 (newD [60]) := d2
  have b2 := b1.trans (bx.mono b1.size)
  clear bx
  go_wp2_with fail
  refine (dStop d2 b2.size stop (by omega)).mono ?_
  rintro e w3 ⟨rfl, d3, c3⟩
  have b3 := b2.trans c3.1
  have I3 : StInv F1 stop 0 ((newD [60]).1, max (stop : Int) (-1)) := StInv.new F1 stop
  generalize ((newD [60]).1, max (stop : Int) (-1)) = D3 at *
  clear c3 d2 e1 e2 e3 e4
  go_wp2_with fail
  go_loopw [9] (fun i wr => St1 w g stop tries i wr) (fun i _ => tries - (intOf i).toNat)
  case atStart => exact ⟨0, D3, Nat.zero_le _, rfl, I3, d3, b3⟩
  case round =>
    clear I3 d3 b3 b2 b1
    obtain ⟨j, D, hj, rfl, I, d, b⟩ := hrel
    by_cases hjt : j < tries
    · have hjI : (j : Int) < (tries : Int) := by omega
      have F64 : F1.length = 64 := fullB_length _
      have hst : decide (D.2 = 0) = decide ((stop : Int) ≤ (j : Int)) := by
        rw [I.left]
        apply decide_eq_decide.2
        omega
      have hin := (I.at_ j (by omega)).1
      have I2 := I.next F64 (by omega)
      go_wp2_with fail
      refine (dStopped d).mono ?_
      rintro e wq ⟨rfl, rfl⟩
      rw [hst]
      go_wp2_with fail
      refine (dFull1 wr 1 1 rfl).mono ?_
      rintro e w4 ⟨g4, rfl, y4, bx⟩
      have y4 : Byt w4 _ F1 := y4
      have d4 := d.below bx
      have b4 := b.trans (bx.mono b.size)
      clear bx d
      go_wp2_with fail
      refine (dWrite d4 b4.size (by omega) 0 j _ F1 (y4.lb _)).mono ?_
      rintro e w5 ⟨rfl, d5, c5⟩
      have b5 := b4.trans c5.1
      clear y4 c5 d4
      rw [hin, F64]
      simp only [decide_true, Bool.and_self]
      have hin2 : inB (writeZ D 0 j F1) 0 0 = true := I.zero F64 (by omega)
      go_wp2_with fail
      refine (dBarrier d5 b5.size (by omega) 0).mono ?_
      rintro e w6 ⟨rfl, d6, c6⟩
      have b6 := b5.trans c6.1
      rw [hin2]
      go_wp2_with fail
      go_roundw
      case rel => exact ⟨j + 1, _, by omega, by go_num, I2, d6.mono (by omega), b6⟩
      case measure => simp only [intOf]; omega
    · have hjI : ¬ (j : Int) < (tries : Int) := by omega
      obtain rfl : j = tries := by omega
      go_wp2_with fail
      obtain ⟨m, hm⟩ : ∃ m, m = min j stop := ⟨_, rfl⟩
      have hm50 : m < 50 := by omega
      have Hm := Lib.hid hm
      clear hm
      go_loopw [10, 11, 12, 13] (fun d i _ _ wx => St2 w g (2 * j) m D d i wx) (fun _ i _ _ _ => 60 - (intOf i).toNat)
      case atStart => exact ⟨0, Nat.zero_le _, rfl, by simp, d, b⟩
      case round =>
        clear d b
        obtain ⟨k, hk, rfl, rfl, d, b⟩ := hrel
        by_cases hk6 : k < 60
        · have hkI : (k : Int) < 60 := by omega
          obtain ⟨i1, i2⟩ := I.at_ k hk6
          go_wp2_with fail
          refine (dRead d 0 k).mono ?_
          rintro e w4 ⟨u, rfl, o4, bx⟩
          rw [i1, if_pos rfl, i2] at o4
          rw [i1]
          have d4 := d.below bx
          have b4 := b.trans (bx.mono b.size)
          clear bx d b
          have q4 : ∃ (z : Nat) (ad : Addr) (c : Nat), u = .slice (some ad) 64 c ∧ w4.cell? ad = some (.int .u8 (z : Int)) ∧ min (k + 1) m = min k m + z ∧ z ≤ 1 := by
            rw [← Hm.out] at o4
            by_cases hkm : k < m
            · rw [if_pos hkm, F1_eq] at o4
              obtain ⟨ad, c, e1, e2⟩ := (Byt.of_OB o4).first rfl
              exact ⟨1, ad, c, e1, e2, by omega, by omega⟩
            · rw [if_neg hkm] at o4
              obtain ⟨ad, c, e1, e2⟩ := (Byt.of_OB o4).first (x := 0) (l := List.replicate 63 0) rfl
              exact ⟨0, ad, c, e1, e2, by omega, by omega⟩
          clear o4 i2
          obtain ⟨z, ad, c, rfl, hc, hz, hz1⟩ := q4
          have Hz := Lib.hid hz
          clear hz
          have hs : min k m ≤ 60 := by omega
          obtain ⟨s, hs'⟩ : ∃ s, s = min k m := ⟨_, rfl⟩
          have Hs := Lib.hid hs'
          rw [← hs'] at hs ⊢
          clear hs'
          go_wp2_with fail
          go_roundw
          case rel => exact ⟨k + 1, by omega, by go_num, by rw [Hz.out, ← Hs.out]; go_num, d4, b4⟩
          case measure => simp only [intOf]; omega
        · have hkI : ¬ (k : Int) < 60 := by omega
          obtain rfl : k = 60 := by omega
          have em : min 60 m = m := by omega
          rw [em]
          have hu := fun R hR => (d.1.rg R hR).su
          obtain ⟨p1, p2, p3, p4⟩ := I.trace (c := fullB [5]) (fullB_length _) hu
          rw [← Hm.out] at p1
          go_wp2_with fail
          refine (dTrace d (by omega) 0).mono ?_
          rintro e w4 ⟨t, rfl, t1, bx⟩
          obtain ⟨at_, ct, rfl, _, _⟩ := t1.len
          have d4 := d.below bx
          have b4 := b.trans (bx.mono b.size)
          have hT := d.1
          clear bx t1 d b
          generalize hL : (traceZ D 0).length = L at *
          go_wp2_with fail
          refine (dCrash d4 b4.size (by omega) [] _ (LBL.nil _ _)).mono ?_
          rintro e w5 ⟨rfl, d5, c5⟩
          have b5 := b4.trans c5.1
          have p5 : decide ((crashD D []).2 = 0) = false := by rw [p2]; decide
          clear c5 d4 b4
          have hL1 : L ≤ 2 * j := by
            rw [← hL]
            obtain ⟨⟨R, hR, _⟩, _⟩ := I
            have := (hT.rg R (by rw [hR]; exact List.mem_cons_self ..)).tn
            unfold traceZ
            rw [hR]
            exact this
          have HL := Lib.hid hL
          clear hL
          have Q := Hm.out
          clear Hm
          by_cases hsj : stop ≤ j
          · obtain rfl : m = stop := by omega
            have hsI : (m : Int) ≤ (j : Int) := by omega
            have pI : (m : Int) ≤ (L : Int) := by omega
            clear Q
            go_wp2_with fail
            refine (dStopped d5).mono ?_
            rintro e wq ⟨rfl, rfl⟩
            rw [p5]
            go_wp2_with fail
            refine (dFull1 w5 5 5 rfl).mono ?_
            rintro e w6 ⟨g6, rfl, y6, bx⟩
            have d6 := d5.below bx
            have b6 := b5.trans (bx.mono b5.size)
            clear d5 bx
            go_wp2_with fail
            refine (dWrite d6 b6.size (by omega) 0 59 _ _ (y6.lb _)).mono ?_
            rintro e w7 ⟨rfl, d7, c7⟩
            have b7 := b6.trans c7.1
            rw [p3, fullB_length]
            simp only [decide_true, Bool.and_self]
            go_wp2_with fail
            refine (dTrace d7 (by omega) 0).mono ?_
            rintro e w8 ⟨t, rfl, t1, bx⟩
            obtain ⟨a8, c8, rfl, _, _⟩ := t1.len
            rw [p4]
            have b8 := b7.trans (bx.mono b7.size)
            clear t1 bx
            go_wp2_with fail
            go_ret
            exact ⟨rfl, b8⟩
          · obtain rfl : m = j := by omega
            have hsI : ¬ (stop : Int) ≤ (m : Int) := by omega
            have pI : (m : Int) ≤ (L : Int) := by omega
            clear Q
            go_wp2_with fail
            refine (dStopped d5).mono ?_
            rintro e wq ⟨rfl, rfl⟩
            rw [p5]
            go_wp2_with fail
            refine (dFull1 w5 5 5 rfl).mono ?_
            rintro e w6 ⟨g6, rfl, y6, bx⟩
            have d6 := d5.below bx
            have b6 := b5.trans (bx.mono b5.size)
            clear d5 bx
            go_wp2_with fail
            refine (dWrite d6 b6.size (by omega) 0 59 _ _ (y6.lb _)).mono ?_
            rintro e w7 ⟨rfl, d7, c7⟩
            have b7 := b6.trans c7.1
            rw [p3, fullB_length]
            simp only [decide_true, Bool.and_self]
            go_wp2_with fail
            refine (dTrace d7 (by omega) 0).mono ?_
            rintro e w8 ⟨t, rfl, t1, bx⟩
            obtain ⟨a8, c8, rfl, _, _⟩ := t1.len
            rw [p4]
            have b8 := b7.trans (bx.mono b7.size)
            clear t1 bx
            go_wp2_with fail
            go_ret
            exact ⟨rfl, b8⟩
theorem devStops_row (n0 n1 : Int) (W : World) (wf0 : (Lit.int .u8 n0).wf = true) (wf1 : (Lit.int .u8 n1).wf = true) : Calls Try.prog 8 #[.int .u8 n0, .int .u8 n1] W fun e w' => e = .returned (.bool true) ∧ Below W.heap.size W w' := by
  obtain ⟨b0, rfl⟩ := wf_u8 wf0
  obtain ⟨b1, rfl⟩ := wf_u8 wf1
  exact devStops_law b0.toNat b1.toNat b0.toNat_lt b1.toNat_lt W
end Go.Proofs.Ytbagicjimfhmeaa.Cl
