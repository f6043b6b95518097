/- rec: the document's filled, Anchor, TakeAnchor; lists of texts compared. -/
import Derived.Test.YtgeiafijibgdhaaRecG
import Derived.Test.YtgeiafijibgdhaaZero
set_option linter.unusedVariables false
set_option linter.unusedSimpArgs false
namespace Go.Proofs.Ytgeiafijibgdhaa.Cl
open Go Go.Proofs Go.RowKit Fl Rely

theorem sumN_u32d (x : List UInt8) : sumN x < 4294967296 := by
  have := sumSt_lt x
  unfold sumN
  omega
set_option maxRecDepth 100000 in
theorem refFilled_any (v : Value) (l : List UInt8) (w : World) (hv : Rd w v (bs l)) (hl : l.length ≤ 60) :
    Calls Try.prog 67 #[v] w fun e w' => ∃ u, e = .returned u ∧ OB w' w.heap.size u (filledB l) ∧ Below w.heap.size w w' := by
  unfold filledB
  obtain ⟨a, cap, rfl, hc1, hc2, _, _⟩ := id hv
  rw [bs_length] at *
  go_enter Try.func67, Try.ntmps67
  have hE : OB (w.alloc (.cells #[] 5)) w.heap.size (.slice (some ⟨w.heap.size, 0, none⟩) 0 0) [] := OB.lit' w.heap.size w #[] [] 0 rfl rfl (Nat.le_refl _) (by simp)
  have hbE := below_new w (.cells #[] 5)
  have hvE := hv.below hbE
  have e60 : IntKind.i64.wrap (60 - (l.length : Int)) = ((60 - l.length : Nat) : Int) := by rw [IntWalk.i64_in _ (by omega)]; omega
  go_wp2_with (at_builtin; go_loud (refine wpList_app w.heap.size _ _ [] l rfl _ _ rfl rfl rfl hE hvE (by simp; omega) hbE.size ?_))
  intro u6 w6 h6 b6 _
  have b6 := hbE.trans b6
  clear hE hvE hbE
  go_wp2_with (at_builtin; go_loud (refine wpList_zeros w.heap.size _ _ l (60 - l.length) rfl _ _ rfl rfl rfl rfl h6 (by omega) b6.size ?_))
  intro u10 w10 h10 b10
  have b10 := b6.trans b10
  clear h6 b6
  go_wp2_with fail
  have hlen : (l ++ List.replicate (60 - l.length) (0 : UInt8)).length = 60 := by simp; omega
  refine (refSum_any u10 _ w10 h10.rd).mono ?_
  rintro e wq ⟨rfl, rfl⟩
  have hsu := sumN_u32d (l ++ List.replicate (60 - l.length) (0 : UInt8))
  have ec : IntKind.u64.wrap (sumN (l ++ List.replicate (60 - l.length) (0 : UInt8)) : Int) = (sumN (l ++ List.replicate (60 - l.length) (0 : UInt8)) : Int) := by rw [IntKind.wrap_u64]; omega
  generalize hxx : l ++ List.replicate (60 - l.length) (0 : UInt8) = x at *
  have hyy := Lib.hid hxx
  clear hxx
  go_wp2_with fail
  refine (high4_any (sumN x) w10.heap.size w10 (by omega) (Nat.le_refl _)).mono ?_
  rintro e wq ⟨u15, rfl, h15, _, b15⟩
  have h10' := h10.below b15
  have b15' := b10.trans (b15.mono b10.size)
  clear h10 b10 b15
  go_wp2_with (at_builtin; go_loud (refine wpList_app w.heap.size _ _ x _ rfl _ _ rfl rfl rfl h10' h15.rd (by rw [hlen, be_length]; omega) b15'.size ?_))
  intro u3 w3 h3 b3 _
  have b3 := b15'.trans b3
  go_wp2_with fail
  go_returns
  rw [hyy.out]
  exact ⟨_, rfl, h3, b3⟩


set_option maxRecDepth 100000 in
set_option maxHeartbeats 1000000 in
theorem refAnchor_any (label : UInt8) (epoch : Nat) (w : World) (he : epoch < 4294967296) :
    Calls Try.prog 42 #[u8 label, .int .u32 epoch] w fun e w' => ∃ u, e = .returned u ∧ OB w' w.heap.size u (anchorB label epoch) ∧ Below w.heap.size w w' := by
  have e1 : IntKind.u64.wrap (epoch : Int) = (epoch : Int) := IntWalk.u64_in _ (by omega)
  have hE : OB (w.alloc (.cells #[.int .u8 65, .int .u8 78, .int .u8 (label.toNat : Nat)] 5)) w.heap.size (.slice (some ⟨w.heap.size, 0, none⟩) 3 3) [65, 78, label] := OB.lit' w.heap.size w _ [65, 78, label] 3 rfl rfl (Nat.le_refl _) (by simp)
  have hbE := below_new w (.cells #[.int .u8 65, .int .u8 78, .int .u8 (label.toNat : Nat)] 5)
  go_enter Try.func42, Try.ntmps42
  go_wp2_with fail
  refine (high4_any epoch w.heap.size _ (by omega) hbE.size).mono ?_
  rintro e w2 ⟨u2, rfl, O2, b2, _⟩
  have hE2 := hE.below b2
  have W := hbE.trans (b2.mono hbE.size)
  go_wp2_with (at_builtin; go_loud (refine wp_want rfl fun K hK => ?_; refine wp_appO w.heap.size _ _ [65, 78, label] (be 4 epoch) (by rw [be_length]; simp) hE2 O2.rd W.size rfl rfl rfl ?_))
  intro u3 w3 O3 t3
  refine hK _ _ ?_
  clear hK K
  have W := W.trans (t3.below W.size hE2.ge)
  clear hE hbE hE2 O2 b2 t3
  go_wp2_with fail
  refine (refFilled_any _ _ _ O3.rd (by simp [be_length])).mono ?_
  rintro e w4 ⟨u4, rfl, O4, b4⟩
  go_wp2_with fail
  go_ret
  exact ⟨_, rfl, O4.mono W.size, W.trans (b4.mono W.size)⟩
set_option maxRecDepth 100000 in
set_option maxHeartbeats 2000000 in
theorem sameT_any (v u : Value) (L M : List (List UInt8)) (w : World) (hv : RdL w v L) (hu : RdL w u M) :
    Calls Try.prog 39 #[v, u] w fun e w' => e = .returned (.bool (decide (L = M))) ∧ Below w.heap.size w w' := by
  obtain ⟨a1, c1, s1, rfl, h1, h1', h1l, h1c, h1r⟩ := hv.sl
  obtain ⟨a2, c2, s2, rfl, h2, h2', h2l, h2c, h2r⟩ := hu.sl
  by_cases hlen : L.length = M.length
  · have hne : ((L.length : Int) != (M.length : Int)) = false := by rw [bne_eq_false_iff_eq]; omega
    have Hlen := Lib.hid hlen
    clear hlen
    go_enter Try.func39, Try.ntmps39
    go_wp2_with fail
    go_loopw [5] (fun i wr => ∃ k : Nat, k ≤ L.length ∧ i = .int .i64 (k : Int) ∧ L.take k = M.take k ∧ Below w.heap.size w wr) (fun i _ => L.length - (intOf i).toNat)
    case atStart => exact ⟨0, Nat.zero_le _, rfl, rfl, Below.refl _ _⟩
    case round =>
      obtain ⟨k, hk, rfl, hs, hb⟩ := hrel
      by_cases hlt : k < L.length
      · have hlI : (k : Int) < (L.length : Int) := by omega
        have hlt2 : k < M.length := by rw [← show L.length = M.length from Hlen]; exact hlt
        have hlI2 : (k : Int) < (M.length : Int) := by omega
        obtain ⟨ad1, e1, k1⟩ := h1c k (by omega)
        obtain ⟨ad2, e2, k2⟩ := h2c k (by omega)
        subst e1
        subst e2
        have r1 := (h1r k (by omega) hlt).below hb
        have r2 := (h2r k (by omega) hlt2).below hb
        have k1 := cell_later hb k1
        have k2 := cell_later hb k2
        generalize s1[k]'(by omega) = x1 at *
        generalize s2[k]'(by omega) = x2 at *
        have t1 := take_snoc L k hlt
        have t2 := take_snoc M k hlt2
        have hno : L[k] ≠ M[k] → decide (L = M) = false := fun h => decide_eq_false fun e => h (by
          have := congrArg (fun z => z[k]?) e
          simp only [List.getElem?_eq_getElem hlt, List.getElem?_eq_getElem hlt2, Option.some.injEq] at this
          exact this)
        generalize L[k] = y1 at *
        generalize M[k] = y2 at *
        obtain ⟨w7, h7⟩ : ∃ x, x = World.drew wr := ⟨_, rfl⟩
        have h7s := h7.symm
        have hb7 : Below w.heap.size w w7 := by rw [h7]; exact hb.drew
        have r1 : Rd w7 x1 (bs y1) := by rw [h7]; exact r1.drew
        have r2 : Rd w7 x2 (bs y2) := by rw [h7]; exact r2.drew
        have k1 : w7.cell? (ad1.add k) = some x1 := by rw [h7]; exact k1
        have k2 : w7.cell? (ad2.add k) = some x2 := by rw [h7]; exact k2
        obtain ⟨b1, d1, rfl, _⟩ := id r1
        obtain ⟨b2, d2, rfl, _⟩ := id r2
        have Ht := Lib.hid (And.intro hs (And.intro t1 t2))
        have Hno := Lib.hid hno
        clear hs t1 t2 hno
        by_cases hy : y1 = y2
        · have hyb : (y1 == y2) = true := by rw [beq_iff_eq]; exact hy
          have hyn : (y1 != y2) = false := by rw [bne_eq_false_iff_eq]; exact hy
          have Hy := Lib.hid hy
          clear hy
          go_wp2_with fail
          refine Zig.wp_region_zig [(false, 0), (false, 1), (false, 2), (false, 3), (false, 4), (false, 5), (false, 6), (false, 7), (false, 8), (false, 9), (false, 10)] (fun W => W = w7) (by kernel_rfl) (by kernel_rfl) h7s ?_
          simp only [Zig.sel, List.drop_succ_cons, List.drop_zero]
          generalize World.drew wr = w8 at *
          haveI : Nonempty (Zig.Lt (fun W => W = w7)) := ⟨⟨w8, h7s⟩⟩
          have i1 : ∀ x : Zig.Lt (fun W => W = w7), x.1.cell? (ad1.add k) = some (.slice b1 (bs y1).length d1) := fun x => by rw [x.2]; exact k1
          have i2 : ∀ x : Zig.Lt (fun W => W = w7), x.1.cell? (ad2.add k) = some (.slice b2 (bs y2).length d2) := fun x => by rw [x.2]; exact k2
          have j1 : ∀ x : Zig.Lt (fun W => W = w7), (convert 37 9 (.slice b1 (bs y1).length d1)).run Try.prog x.1 = .ok (.string ⟨y1.toArray⟩) x.1 := fun x => by rw [x.2]; exact run_string_of r1 _ 5 _ Try.underlying37 Try.underlying5 Try.underlying9
          have j2 : ∀ x : Zig.Lt (fun W => W = w7), (convert 37 9 (.slice b2 (bs y2).length d2)).run Try.prog x.1 = .ok (.string ⟨y2.toArray⟩) x.1 := fun x => by rw [x.2]; exact run_string_of r2 _ 5 _ Try.underlying37 Try.underlying5 Try.underlying9
          rw [bs_length] at i1 i2 j1 j2
          repeat (refine Zig.zig_step (fun K hK => ?_); go_simp; refine hK _ ?_; clear hK K)
          refine Zig.zig_nil ?_
          clear i1 i2 j1 j2
          subst h7s
          go_wp2_with fail
          go_roundw
          case rel =>
            refine ⟨k + 1, by omega, by go_num, ?_, hb7⟩
            obtain ⟨hs, t1, t2⟩ := Ht.out
            rw [t1, t2, hs, show y1 = y2 from Hy]
          case measure => simp only [intOf]; omega
        · have hyb : (y1 == y2) = false := by rw [beq_eq_false_iff_ne]; exact hy
          have hyn : (y1 != y2) = true := by rw [bne_iff_ne]; exact hy
          have hno := Lib.hid (Hno.out hy)
          clear hy
          go_wp2_with fail
          refine Zig.wp_region_zig [(false, 0), (false, 1), (false, 2), (false, 3), (false, 4), (false, 5), (false, 6), (false, 7), (false, 8), (false, 9), (false, 10)] (fun W => W = w7) (by kernel_rfl) (by kernel_rfl) h7s ?_
          simp only [Zig.sel, List.drop_succ_cons, List.drop_zero]
          generalize World.drew wr = w8 at *
          haveI : Nonempty (Zig.Lt (fun W => W = w7)) := ⟨⟨w8, h7s⟩⟩
          have i1 : ∀ x : Zig.Lt (fun W => W = w7), x.1.cell? (ad1.add k) = some (.slice b1 (bs y1).length d1) := fun x => by rw [x.2]; exact k1
          have i2 : ∀ x : Zig.Lt (fun W => W = w7), x.1.cell? (ad2.add k) = some (.slice b2 (bs y2).length d2) := fun x => by rw [x.2]; exact k2
          have j1 : ∀ x : Zig.Lt (fun W => W = w7), (convert 37 9 (.slice b1 (bs y1).length d1)).run Try.prog x.1 = .ok (.string ⟨y1.toArray⟩) x.1 := fun x => by rw [x.2]; exact run_string_of r1 _ 5 _ Try.underlying37 Try.underlying5 Try.underlying9
          have j2 : ∀ x : Zig.Lt (fun W => W = w7), (convert 37 9 (.slice b2 (bs y2).length d2)).run Try.prog x.1 = .ok (.string ⟨y2.toArray⟩) x.1 := fun x => by rw [x.2]; exact run_string_of r2 _ 5 _ Try.underlying37 Try.underlying5 Try.underlying9
          rw [bs_length] at i1 i2 j1 j2
          repeat (refine Zig.zig_step (fun K hK => ?_); go_simp; refine hK _ ?_; clear hK K)
          refine Zig.zig_nil ?_
          clear i1 i2 j1 j2
          subst h7s
          go_wp2_with fail
          go_ret
          exact ⟨ret_bool hno.out.symm, hb7⟩
      · have hlI : ¬ (k : Int) < (L.length : Int) := by omega
        have hyes := Lib.hid (show decide (L = M) = true from decide_eq_true (by
          rw [List.take_of_length_le (by omega), List.take_of_length_le (by rw [← show L.length = M.length from Hlen]; omega)] at hs
          exact hs))
        clear hs
        go_wp2_with fail
        go_ret
        exact ⟨ret_bool hyes.out.symm, hb⟩
  · have hne : ((L.length : Int) != (M.length : Int)) = true := by rw [bne_iff_ne]; omega
    have hno : decide (L = M) = false := decide_eq_false fun e => hlen (by rw [e])
    rw [hno]
    have hlen := Lib.hid hlen
    go_enter Try.func39, Try.ntmps39
    go_wp2_with fail
    go_ret
    exact ⟨rfl, Below.refl _ _⟩
end Go.Proofs.Ytgeiafijibgdhaa.Cl
